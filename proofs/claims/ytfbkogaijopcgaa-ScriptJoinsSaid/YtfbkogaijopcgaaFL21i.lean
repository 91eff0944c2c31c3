/-
  OWN WORK (an AI agent). Part L21i of a walk by simplification over abstract heaps.
-/
import Derived.Test.YtfbkogaijopcgaaFL21h
set_option linter.all false
set_option linter.unusedSimpArgs false
set_option linter.unusedVariables false
set_option maxRecDepth 20000
namespace Go.Proofs.Ytfbkogaijopcgaa
open Go.F Go.RowKit

/-! the reader, step by step: how far, and the error -/
def W (p rest : List Int) (st : Nat × Int) : Nat × Int := if st.2 = 0 then (st.1 + (wantL p (rest.drop st.1)).1, (wantL p (rest.drop st.1)).2) else st
def N (lo hi : Int) (rest : List Int) (st : Nat × Int) : (Nat × Int) × Int := if st.2 = 0 then ((st.1 + (numL lo hi (rest.drop st.1)).1, (numL lo hi (rest.drop st.1)).2.1), (numL lo hi (rest.drop st.1)).2.2) else (st, 0)

theorem wantL_le : ∀ (p rest : List Int), (wantL p rest).1 ≤ rest.length
  | [], _ => Nat.zero_le _
  | _ :: _, [] => Nat.le_refl _
  | c :: s, x :: r => by
    have := wantL_le s r
    simp only [wantL]
    split <;> simp; omega

theorem digL_le : ∀ (rest : List Int) (n : Int), (digL n rest).1 ≤ rest.length
  | [], _ => Nat.le_refl _
  | c :: r, n => by
    have := digL_le r (dstep n c)
    simp only [digL]
    split <;> simp; omega

theorem finL_le {lo hi sg : Int} {k : Nat} {n : Int} {m : Nat} (h : k ≤ m) : (finL lo hi sg k n).1 ≤ m := by
  unfold finL; split <;> simp; omega

theorem numT_le (lo hi sg : Int) (k : Nat) (rest : List Int) : (numT lo hi sg k rest).1 ≤ k + rest.length := by
  cases rest with
  | nil => simp [numT]
  | cons c r =>
    simp only [numT]
    have := digL_le (c :: r) 0
    simp only [List.length_cons] at this ⊢
    split
    · simp
    · split
      · split
        · simp
        · exact finL_le (by omega)
      · exact finL_le (by omega)

theorem numL_le (lo hi : Int) (rest : List Int) : (numL lo hi rest).1 ≤ rest.length := by
  unfold numL
  split
  · rename_i h
    have := numT_le lo hi (-1) 1 rest.tail
    cases rest with
    | nil => simp at h
    | cons c r => simp at this ⊢; omega
  · have := numT_le lo hi 1 0 rest
    omega

theorem W_le {p rest : List Int} {st : Nat × Int} (h : st.1 ≤ rest.length) : (W p rest st).1 ≤ rest.length := by
  unfold W
  have := wantL_le p (rest.drop st.1)
  split
  · simp at this ⊢; omega
  · exact h
theorem N_le {lo hi : Int} {rest : List Int} {st : Nat × Int} (h : st.1 ≤ rest.length) : (N lo hi rest st).1.1 ≤ rest.length := by
  unfold N
  have := numL_le lo hi (rest.drop st.1)
  split
  · simp at this ⊢; omega
  · exact h

/-- the heap: what was there, the script, the reader, others -/
def HP (H : AHeap) (s : Option ABlk) (xb : AVal) (a : Nat) (st : Nat × Int) (L : AHeap) : AHeap := H ++ s :: some (rb xb ((a + st.1 : Nat) : Int) st.2) :: L

structure Base (C : Ctx) (H : AHeap) (xb : AVal) (bs : List Int) : Prop where
  b : Bs C H xb bs
  lt : xb.lt H.length
  len : bs.length ≤ 1000000
  ok : okB bs

theorem Base.rdr {C : Ctx} {H : AHeap} {xb : AVal} {bs : List Int} (h : Base C H xb bs) (s x : Option ABlk) (L : AHeap) : Rdr C (H ++ s :: x :: L) (H.length + 1) xb bs :=
  ⟨by simp, h.b.app, idA_new h.lt 1⟩

theorem RH_HP (H : AHeap) (s x : Option ABlk) (xb : AVal) (a : Nat) (st : Nat × Int) (L : AHeap) : RH (H ++ s :: x :: L) (H.length + 1) xb ((a + st.1 : Nat) : Int) st.2 = HP H s xb a st L := by
  simp [RH, HP]

theorem wantS (C : Ctx) (hP : C.P = Try.prog) {H : AHeap} {xb : AVal} {bs : List Int} (hB : Base C H xb bs) (s : Option ABlk) (L : AHeap) (a : Nat) (st : Nat × Int) (p : ByteArray) (hp : p.size ≤ 1000) (ha : a ≤ bs.length) (hst : st.1 ≤ (bs.drop a).length) :
    FCalls C 17 [.ptr (.loc (H.length + 1) 0), .str p] (HP H s xb a st L) (fun v H' => H' = HP H s xb a (W (bytesI p) (bs.drop a) st) L) := by
  simp at hst
  have := want_calls C hP (hB.rdr s none L) (a + st.1) st.2 p (by omega) hB.len hp
  rw [RH_HP] at this
  refine this.mono fun v H' h => ?_
  rw [h]
  unfold W
  rw [List.drop_drop]
  split
  · rw [← RH_HP (x := none)]
    rw [Nat.add_assoc]
  · rfl

theorem moreS (C : Ctx) (hP : C.P = Try.prog) {H : AHeap} {xb : AVal} {bs : List Int} (hB : Base C H xb bs) (s : Option ABlk) (L : AHeap) (a : Nat) (st : Nat × Int) (n f : Int) (hn : n ≠ 65536) (ha : a ≤ bs.length) (hst : st.1 ≤ (bs.drop a).length) :
    FCalls C 18 [.ptr (.loc (H.length + 1) 0), .int .i64 n, .int .i64 f] (HP H s xb a st L) (fun v H' => H' = HP H s xb a (W [32] (bs.drop a) st) L) := by
  simp at hst
  have := more_calls C hP (hB.rdr s none L) (a + st.1) st.2 n f (by omega) hB.len hn
  rw [RH_HP] at this
  refine this.mono fun v H' h => ?_
  rw [h]
  unfold W
  rw [List.drop_drop]
  split
  · rw [← RH_HP (x := none)]
    rw [Nat.add_assoc]
  · rfl

theorem numS (C : Ctx) (hP : C.P = Try.prog) {H : AHeap} {xb : AVal} {bs : List Int} (hB : Base C H xb bs) (s : Option ABlk) (L : AHeap) (a : Nat) (st : Nat × Int) (lo hi : Int) (ha : a ≤ bs.length) (hst : st.1 ≤ (bs.drop a).length) :
    FCalls C 19 [.ptr (.loc (H.length + 1) 0), .int .i64 lo, .int .i64 hi] (HP H s xb a st L) (fun v H' => v = .int .i64 (N lo hi (bs.drop a) st).2 ∧ H' = HP H s xb a (N lo hi (bs.drop a) st).1 L) := by
  simp at hst
  have := number_calls C hP (hB.rdr s none L) (a + st.1) st.2 lo hi (by omega) hB.len
  rw [RH_HP] at this
  refine this.mono fun v H' h => ?_
  unfold N
  rw [List.drop_drop]
  split at h
  · rename_i e
    rw [if_pos e]
    refine ⟨h.1, h.2.trans ?_⟩
    rw [← RH_HP (x := none)]
    rw [Nat.add_assoc]
  · rename_i e
    rw [if_neg e]
    exact h

theorem nextS (C : Ctx) (hP : C.P = Try.prog) {H : AHeap} {xb : AVal} {bs : List Int} (hB : Base C H xb bs) (s : Option ABlk) (L : AHeap) (a : Nat) (st : Nat × Int) (lo hi : Int) (ha : a ≤ bs.length) (hst : st.1 ≤ (bs.drop a).length) :
    FCalls C 20 [.ptr (.loc (H.length + 1) 0), .int .i64 lo, .int .i64 hi] (HP H s xb a st L) (fun v H' => v = .int .i64 (N lo hi (bs.drop a) (W [32] (bs.drop a) st)).2 ∧ H' = HP H s xb a (N lo hi (bs.drop a) (W [32] (bs.drop a) st)).1 L) := by
  refine FCalls.entry (hP ▸ v20) (by simp [e20]) fun hw _ => FWx_sound (FWx.hide fun Q hQ => ?_)
  simp (implicitDefEqProofs := false) [e20, c20]
  refine FWops_callR rfl (by simp) (wantS C hP hB s L a st ⟨#[32]⟩ (by decide) ha hst) ?_
  rintro v H' rfl
  rw [bytesI_sp]
  simp (implicitDefEqProofs := false)
  refine FWops_callR rfl (by simp) (numS C hP hB s L a _ lo hi ha (W_le hst)) ?_
  rintro v H' ⟨rfl, rfl⟩
  simp (implicitDefEqProofs := false)
  rw [hQ]
  refine retQ_ret (by simp [HP]) ?_
  simp [e20]

inductive Item where
  | none
  | ent (e : Ent)
  | draw (n : Int)

def maxI : Int := 2305843009213693951

def oneM (rest : List Int) : (Nat × Int) × Item :=
  if rest.take 1 = [112] then
    let s2 := W [32] rest (W [112, 105, 99, 107] rest (0, 0))
    let n1 := N 0 maxI rest s2
    let n2 := N 1 64 rest (W [32] rest n1.1)
    let s4 := W [10] rest n2.1
    (s4, if s4.2 = 0 then .ent ⟨1, n1.2, n2.2, 0, 0, 0⟩ else .none)
  else if rest.take 2 = [116, 105] then
    let s1 := W [116, 105] rest (0, 0)
    if (rest.drop s1.1).head? = some 101 then
      let s3 := W [32] rest (W [101, 114] rest s1)
      let n1 := N 0 1023 rest s3
      let n2 := N 0 1 rest (W [32] rest n1.1)
      let n3 := N 0 1 rest (W [32] rest n2.1)
      let n4 := N 0 4 rest (W [32] rest n3.1)
      let s4 := W [10] rest n4.1
      (s4, if s4.2 = 0 then .ent ⟨3, n1.2, 0, n2.2, n3.2, n4.2⟩ else .none)
    else
      let s3 := W [32] rest (W [99, 107] rest s1)
      let n1 := N 0 1048576 rest s3
      let s4 := W [10] rest n1.1
      (s4, if s4.2 = 0 then .ent ⟨2, n1.2, 0, 0, 0, 0⟩ else .none)
  else if rest.take 1 = [116] then (W [10] rest (W [116, 105] rest (0, 0)), .none)
  else
    let s2 := W [32] rest (W [100, 114, 97, 119] rest (0, 0))
    let n1 := N (-2305843009213693952) maxI rest s2
    (W [10] rest n1.1, if n1.1.2 = 0 then .draw n1.2 else .none)

/-- what one line does to the heap -/
def OneP (H : AHeap) (xb : AVal) (a : Nat) (E : List Ent) (D : List Int) (o : (Nat × Int) × Item) (H' : AHeap) : Prop :=
  (o.2 = .none ∧ ∃ ve vd oe od, H' = HP H (some ⟨[ve, vd], 27⟩) xb a o.1 [oe, od] ∧ NewE ve oe (H.length + 2) E ∧ NewD vd od (H.length + 3) D) ∨
  (∃ e vd oe od, o.2 = .ent e ∧ H' = HP H (some ⟨[.arr (H.length + 4) (E.length + 1), vd], 27⟩) xb a o.1 [oe, od, some ⟨entC (E ++ [e]), 40⟩] ∧ NewD vd od (H.length + 3) D) ∨
  (∃ n ve oe od, o.2 = .draw n ∧ H' = HP H (some ⟨[ve, .arr (H.length + 4) (D.length + 1)], 27⟩) xb a o.1 [oe, od, some ⟨intC (D ++ [n]), 3⟩] ∧ NewE ve oe (H.length + 2) E)

theorem NewE.ren {x : AVal} {o : Option ABlk} {n k j : Nat} {l : List Ent} (h : NewE x o (n + k) l) {ks : List Nat} (hk : ks.idxOf? k = some j) : NewE (renV (keepAt n ks) x) (o.map fun b => ⟨renL (keepAt n ks) b.cells, b.ty⟩) (n + j) l := by
  rcases h with ⟨rfl, rfl⟩ | ⟨rfl, rfl⟩
  · exact .inl ⟨by simp, rfl⟩
  · refine .inr ⟨?_, by simp⟩
    rw [ren_arr, hk]; rfl
theorem NewD.ren {x : AVal} {o : Option ABlk} {n k j : Nat} {l : List Int} (h : NewD x o (n + k) l) {ks : List Nat} (hk : ks.idxOf? k = some j) : NewD (renV (keepAt n ks) x) (o.map fun b => ⟨renL (keepAt n ks) b.cells, b.ty⟩) (n + j) l := by
  rcases h with ⟨rfl, rfl⟩ | ⟨rfl, rfl⟩
  · exact .inl ⟨by simp, rfl⟩
  · refine .inr ⟨?_, by simp⟩
    rw [ren_arr, hk]; rfl
theorem NewE.sc {x : AVal} {o : Option ABlk} {id : Nat} {l : List Ent} (h : NewE x o id l) : scalar x = true := by
  rcases h with ⟨rfl, _⟩ | ⟨rfl, _⟩ <;> rfl
theorem NewD.sc {x : AVal} {o : Option ABlk} {id : Nat} {l : List Int} (h : NewD x o id l) : scalar x = true := by
  rcases h with ⟨rfl, _⟩ | ⟨rfl, _⟩ <;> rfl

end Go.Proofs.Ytfbkogaijopcgaa
