/-
  OWN WORK (an AI agent). Part L21h of a walk by simplification over abstract heaps.
-/
import Derived.Test.YtfbkogaijopcgaaFL21g
import Derived.Laws.Strings
set_option linter.all false
set_option linter.unusedSimpArgs false
set_option linter.unusedVariables false
set_option maxRecDepth 20000
namespace Go.Proofs.Ytfbkogaijopcgaa
open Go.F Go.RowKit

/-! pieces of bytes, compared -/
theorem intsOf_byteC : ∀ l : List Int, intsOf (byteC l) = some l
  | [] => rfl
  | c :: l => by
    have := intsOf_byteC l
    simp only [byteC] at this
    simp [byteC, intsOf, this]

theorem pushAll_data (l : List Int) : (pushAll l).data.toList = l.map fun n => UInt8.ofNat n.toNat := by
  have : ∀ (l : List Int) (b : ByteArray), (l.foldl (fun r n => r.push (UInt8.ofNat n.toNat)) b).data.toList = b.data.toList ++ l.map fun n => UInt8.ofNat n.toNat := by
    intro l
    induction l with
    | nil => intro b; simp
    | cons n l ih => intro b; rw [List.foldl_cons, ih]; simp [ByteArray.push]
  exact (this l _).trans (by simp)

def okB (l : List Int) : Prop := ∀ c ∈ l, 0 ≤ c ∧ c ≤ 255

theorem pushAll_inj {l m : List Int} (hl : okB l) (hm : okB m) : ((pushAll l).toList == (pushAll m).toList) = decide (l = m) := by
  rw [ByteArray.toList_eq, ByteArray.toList_eq, pushAll_data, pushAll_data]
  by_cases e : l = m
  · subst e; simp
  · simp only [e, decide_false, beq_eq_false_iff_ne]
    intro h
    apply e
    induction l generalizing m with
    | nil => cases m with
      | nil => rfl
      | cons => simp at h
    | cons a l ih => cases m with
      | nil => simp at h
      | cons b m =>
        simp only [List.map_cons, List.cons.injEq] at h
        have ha := hl a (by simp)
        have hb := hm b (by simp)
        have hab : a = b := by
          have h2 := congrArg UInt8.toNat h.1
          simp only [UInt8.toNat_ofNat'] at h2
          omega
        subst hab
        rw [ih (fun c hc => hl c (by simp [hc])) (fun c hc => hm c (by simp [hc])) (fun e2 => e (by rw [e2])) h.2]

theorem Bs.b2s {C : Ctx} {H : AHeap} {x : AVal} {l : List Int} (h : Bs C H x l) : b2sA C H x = some (.str (pushAll l)) := by
  have hs := h.src
  have hns := h.ns
  cases x <;> simp only [srcCells, reduceCtorEq, Option.some.injEq, Prod.mk.injEq, Option.map_eq_some_iff] at hs
  · exact absurd rfl (hns _)
  · obtain ⟨l', h1, rfl, rfl⟩ := hs
    simp only [Nat.mul_one] at h1
    simp only [b2sA, h1, intsOf_byteC, Option.map_some]
  · obtain ⟨l', h1, rfl, rfl⟩ := hs
    simp only [Nat.mul_one] at h1
    simp only [b2sA, h1, intsOf_byteC, Option.map_some]
  · have : l = [] := List.length_eq_zero_iff.1 hs.1.symm
    subst this
    rfl

theorem ldn_sub {C : Ctx} {H : AHeap} {a : AAd} {n : Nat} {l : List AVal} (h : ldn C H a 0 n = some l) {i k : Nat} (hik : i + k ≤ n) : ldn C H (addA a i) 0 k = some ((l.drop i).take k) := by
  obtain ⟨h1, h2⟩ := ldn_get h
  refine ldn_of (by simp; omega) fun j hj => ?_
  rw [Nat.zero_add, ldc_addA]
  have := h2 (i + j) (by omega)
  rw [Nat.zero_add] at this
  rw [this, List.getElem?_take, if_pos hj, List.getElem?_drop]

theorem byteC_sub (l : List Int) (i k : Nat) : ((byteC l).drop i).take k = byteC ((l.drop i).take k) := by simp [byteC, List.map_drop, List.map_take]

/-- a piece of bytes -/
theorem Bs.slice {C : Ctx} {H : AHeap} {x : AVal} {l : List Int} (h : Bs C H x l) {t : Fr} {ty : Nat} {lo hi : Option FOpd} {i j : Nat} (hlo : bnd t 0 lo = some (i : Int)) (hhi : bnd t l.length hi = some (j : Int)) (hij : i ≤ j) (hj : j ≤ l.length) :
    ∃ x', sliceA H t ty 1 x lo hi none = some x' ∧ Bs C H x' ((l.drop i).take (j - i)) ∧ idA x' = idA x := by
  have hs := h.src
  have hns := h.ns
  have hsl : ∀ k, sliceN t l.length k 1 lo hi none = some (i, j) := by
    intro k
    unfold sliceN
    rw [hlo, hhi]
    simp only [bnd]
    rw [if_pos ⟨by omega, by omega, .inl (by omega), .inl trivial⟩]
    simp
  have hlen : ((l.drop i).take (j - i)).length = j - i := by simp; omega
  cases x <;> simp only [srcCells, reduceCtorEq, Option.some.injEq, Prod.mk.injEq, Option.map_eq_some_iff] at hs
  · exact absurd rfl (hns _)
  · rename_i id n
    obtain ⟨l', h1, rfl, rfl⟩ := hs
    simp only [sliceA, hsl, Option.map_some]
    simp only [Nat.mul_one] at h1
    by_cases hl0 : lo = none
    · subst hl0
      have hi0 : i = 0 := by simp only [bnd, Option.some.injEq] at hlo; omega
      subst hi0
      have h2 := ldn_sub h1 (i := 0) (k := j) (by omega)
      refine ⟨.arr id j, by simp, ⟨?_, by simp⟩, by simp⟩
      simp only [srcCells, Nat.mul_one]
      rw [byteC_sub] at h2
      simp only [Nat.sub_zero] at hlen ⊢
      rw [show (AAd.loc id 0) = addA (.loc id 0) 0 from rfl, h2, hlen]
      rfl
    · have h2 := ldn_sub h1 (i := i) (k := j - i) (by omega)
      refine ⟨.slc (.loc id i) (j - i), by simp [hl0], ⟨?_, by simp⟩, by simp⟩
      simp only [srcCells, Nat.mul_one]
      rw [byteC_sub] at h2
      rw [show (AAd.loc id i) = addA (.loc id 0) i from by simp [addA], h2, hlen]
      rfl
  · rename_i a n
    obtain ⟨l', h1, rfl, rfl⟩ := hs
    simp only [sliceA, hsl, Option.map_some]
    simp only [Nat.mul_one] at h1
    have h2 := ldn_sub h1 (i := i) (k := j - i) (by omega)
    refine ⟨.slc (addA a (i * 1)) (j - i), rfl, ⟨?_, by simp⟩, by simp⟩
    simp only [srcCells, Nat.mul_one]
    rw [byteC_sub] at h2
    rw [h2, hlen]
    rfl
  · have : l = [] := List.length_eq_zero_iff.1 hs.1.symm
    subst this
    have hj0 : j = 0 := by simpa using hj
    have hi0 : i = 0 := by omega
    subst hj0; subst hi0
    have := hsl 0
    simp only [List.length_nil] at this
    simp only [sliceA, this, Option.map_some]
    exact ⟨.nils, rfl, h, rfl⟩

theorem sliceN_pre {t : Fr} {n k q m : Nat} (hk : t q = .int .i64 m) (hm : m ≤ n) : sliceN t n k 1 none (some (.tmp q)) none = some (0, m) := by
  unfold sliceN
  simp only [bnd, evalO, hk, asI]
  rw [if_pos ⟨by omega, by omega, .inl (by omega), .inl trivial⟩]
  simp
theorem sliceN_suf {t : Fr} {n k q m : Nat} (hk : t q = .int .i64 m) (hm : m ≤ n) : sliceN t n k 1 (some (.tmp q)) none none = some (m, n) := by
  unfold sliceN
  simp only [bnd, evalO, hk, asI]
  rw [if_pos ⟨by omega, by omega, .inl (by omega), .inl trivial⟩]
  simp

theorem lt_of_idA {x : AVal} {n : Nat} {C : Ctx} {H : AHeap} {l : List Int} (hb : Bs C H x l) (h : ∀ j ∈ idA x, j < n) : x.lt n := by
  have hs := hb.src
  cases x <;> simp only [srcCells, reduceCtorEq, Option.some.injEq, Prod.mk.injEq, Option.map_eq_some_iff] at hs
  · exact absurd rfl (hb.ns _)
  · simp only [AVal.lt]; exact h _ (by simp)
  · rename_i a _
    simp only [AVal.lt]
    cases a with
    | loc i o => exact h _ (by simp)
    | base a => trivial
  · simp only [AVal.lt]

theorem Bs.pre {C : Ctx} {H : AHeap} {x : AVal} {l : List Int} (h : Bs C H x l) {m : Nat} (hm : m ≤ l.length) :
    ∃ x', (∀ (H' : AHeap) (t : Fr) (ty k : Nat), t k = .int .i64 m → sliceA H' t ty 1 x none (some (.tmp k)) none = some x') ∧ Bs C H x' (l.take m) ∧ idA x' = idA x := by
  obtain ⟨x', h1, h2, h3⟩ := h.slice (t := fun _ => .int .i64 m) (ty := 0) (lo := none) (hi := some (.tmp 0)) (i := 0) (j := m) rfl rfl (Nat.zero_le _) hm
  refine ⟨x', fun H' t ty k hk => ?_, by simpa using h2, h3⟩
  rw [← h1]
  have hs := h.src
  cases x <;> simp only [srcCells, reduceCtorEq, Option.some.injEq, Prod.mk.injEq, Option.map_eq_some_iff] at hs
  · exact absurd rfl (h.ns _)
  · obtain ⟨_, _, e, _⟩ := hs
    subst e
    simp only [sliceA, sliceN_pre hk hm, sliceN_pre (t := fun _ => .int .i64 m) (q := 0) rfl hm]
  · obtain ⟨_, _, e, _⟩ := hs
    subst e
    simp only [sliceA, sliceN_pre hk hm, sliceN_pre (t := fun _ => .int .i64 m) (q := 0) rfl hm]
  · rw [← hs.1] at hm
    simp only [sliceA, sliceN_pre hk hm, sliceN_pre (t := fun _ => .int .i64 m) (q := 0) rfl hm]

theorem Bs.suf {C : Ctx} {H : AHeap} {x : AVal} {l : List Int} (h : Bs C H x l) {m : Nat} (hm : m ≤ l.length) :
    ∃ x', (∀ (H' : AHeap) (t : Fr) (ty k : Nat), t k = .int .i64 m → sliceA H' t ty 1 x (some (.tmp k)) none none = some x') ∧ Bs C H x' (l.drop m) ∧ idA x' = idA x := by
  obtain ⟨x', h1, h2, h3⟩ := h.slice (t := fun _ => .int .i64 m) (ty := 0) (lo := some (.tmp 0)) (hi := none) (i := m) (j := l.length) rfl rfl hm (Nat.le_refl _)
  refine ⟨x', fun H' t ty k hk => ?_, by rw [List.take_of_length_le (by simp)] at h2; exact h2, h3⟩
  rw [← h1]
  have hs := h.src
  cases x <;> simp only [srcCells, reduceCtorEq, Option.some.injEq, Prod.mk.injEq, Option.map_eq_some_iff] at hs
  · exact absurd rfl (h.ns _)
  · obtain ⟨_, _, e, _⟩ := hs
    subst e
    simp [sliceA, sliceN_suf hk hm, sliceN_suf (t := fun _ => .int .i64 m) (q := 0) rfl hm]
  · obtain ⟨_, _, e, _⟩ := hs
    subst e
    simp only [sliceA, sliceN_suf hk hm, sliceN_suf (t := fun _ => .int .i64 m) (q := 0) rfl hm]
  · rw [← hs.1] at hm
    simp only [sliceA, sliceN_suf hk hm, sliceN_suf (t := fun _ => .int .i64 m) (q := 0) rfl hm]

theorem equal_calls (C : Ctx) (hP : C.P = Try.prog) (x y : AVal) (l m : List Int) (H : AHeap) (hx : Bs C H x l) (hy : Bs C H y m) (ol : okB l) (om : okB m) :
    FCalls C 21 [x, y] H (fun v H' => v = .bool (decide (l = m)) ∧ H' = H) := by
  refine FCalls.entry (hP ▸ v21) (by simp [e21]) fun hw _ => FWx_sound ?_
  simp (implicitDefEqProofs := false) [e21, c21, hx.b2s, hy.b2s, pushAll_inj ol om]
  refine retQ_ret (Nat.le_refl _) ?_
  simp

theorem prefix_calls (C : Ctx) (hP : C.P = Try.prog) (x y : AVal) (l m : List Int) (H : AHeap) (hx : Bs C H x l) (hy : Bs C H y m) (ol : okB l) (om : okB m) :
    FCalls C 16 [x, y] H (fun v H' => v = .bool (decide (l.take m.length = m)) ∧ H' = H) := by
  refine FCalls.entry (hP ▸ v16) (by simp [e16]) fun hw _ => FWx_sound (FWx.hide fun Q hQ => ?_)
  by_cases h : m.length ≤ l.length
  · have h' : (m.length : Int) ≤ l.length := by omega
    obtain ⟨x', h1, h2, _⟩ := hx.pre h
    simp (implicitDefEqProofs := false) [e16, c16, hx.lenV, hy.lenV, h', h1]
    refine FWops_callR rfl (by simp) (equal_calls C hP x' y _ m _ h2 hy (fun c hc => ol c (List.mem_of_mem_take hc)) om) ?_
    rintro v H' ⟨rfl, rfl⟩
    simp (implicitDefEqProofs := false)
    rw [hQ]
    refine retQ_ret (Nat.le_refl _) ?_
    simp [e16]
  · have h' : ¬ (m.length : Int) ≤ l.length := by omega
    simp (implicitDefEqProofs := false) [e16, c16, hx.lenV, hy.lenV, h']
    rw [hQ]
    refine retQ_ret (Nat.le_refl _) ?_
    have : l.take m.length ≠ m := fun e => by
      have := congrArg List.length e
      simp at this; omega
    simp [e16, this]

end Go.Proofs.Ytfbkogaijopcgaa
