/- Rows of plain cells, loops that forget, cuts. -/
import Derived.Test.YtlghjfmehfochaaDoorFP
set_option linter.all false
namespace Go.F
open Go.RowKit

/-! slices of known cells -/
structure Sl (C : Ctx) (H : AHeap) (esz : Nat) (x : AVal) (n : Nat) (cells : List AVal) : Prop where
  src : srcCells C H esz x = some (n, cells)
  len : cells.length = n * esz
  sc : cells.all scalar = true

theorem Sl.kind {C : Ctx} {H : AHeap} {esz : Nat} {x : AVal} {n : Nat} {cells : List AVal} (h : Sl C H esz x n cells) :
    (x = .nils ∧ n = 0 ∧ cells = []) ∨ (∃ id, x = .arr id n ∧ ldn C H (.loc id 0) 0 (n * esz) = some cells) ∨ (∃ a, x = .slc a n ∧ ldn C H a 0 (n * esz) = some cells) ∨ (∃ s, x = .str s) := by
  have := h.src
  cases x <;> simp only [srcCells, reduceCtorEq, Option.some.injEq, Prod.mk.injEq, Option.map_eq_some_iff] at this
  · exact .inr (.inr (.inr ⟨_, rfl⟩))
  · obtain ⟨l, h1, rfl, rfl⟩ := this
    exact .inr (.inl ⟨_, rfl, h1⟩)
  · obtain ⟨l, h1, rfl, rfl⟩ := this
    exact .inr (.inr (.inl ⟨_, rfl, h1⟩))
  · exact .inl ⟨rfl, this.1.symm, this.2.symm⟩

theorem Sl.lenV {C : Ctx} {H : AHeap} {esz : Nat} {x : AVal} {n : Nat} {cells : List AVal} (h : Sl C H esz x n cells) (hx : ∀ s, x ≠ .str s) : lenV false x = some (.int .i64 n) := by
  rcases h.kind with ⟨rfl, rfl, _⟩ | ⟨_, rfl, _⟩ | ⟨_, rfl, _⟩ | ⟨s, rfl⟩
  · rfl
  · rfl
  · rfl
  · exact absurd rfl (hx s)

theorem srcCells_app {C : Ctx} {H L : AHeap} {e : Nat} {x : AVal} {r : Nat × List AVal} (h : srcCells C H e x = some r) : srcCells C (H ++ L) e x = some r := by
  cases x <;> simp only [srcCells, reduceCtorEq, Option.some.injEq, Option.map_eq_some_iff] at h ⊢
  · exact h
  · obtain ⟨l, h1, h2⟩ := h; exact ⟨l, ldn_app h1, h2⟩
  · obtain ⟨l, h1, h2⟩ := h; exact ⟨l, ldn_app h1, h2⟩
  · exact h

theorem Sl.app {C : Ctx} {H L : AHeap} {esz : Nat} {x : AVal} {n : Nat} {cells : List AVal} (h : Sl C H esz x n cells) : Sl C (H ++ L) esz x n cells := ⟨srcCells_app h.src, h.len, h.sc⟩

theorem ldn_get {C : Ctx} {H : AHeap} {a : AAd} : ∀ {n j : Nat} {l : List AVal}, ldn C H a j n = some l → l.length = n ∧ ∀ k, k < n → ldc C H a (j + k) = l[k]?
  | 0, j, l, h => by simp only [ldn, Option.some.injEq] at h; subst h; exact ⟨rfl, fun k hk => absurd hk (Nat.not_lt_zero _)⟩
  | n + 1, j, l, h => by
    simp only [ldn] at h
    split at h
    · rename_i v hv
      split at h
      · rename_i l' hl'
        simp only [Option.some.injEq] at h
        subst h
        obtain ⟨h1, h2⟩ := ldn_get hl'
        refine ⟨by simp [h1], fun k hk => ?_⟩
        cases k with
        | zero => simpa using hv
        | succ k =>
          have := h2 k (by omega)
          rw [show j + (k + 1) = j + 1 + k by omega, this]
          simp
      · cases h
    · cases h

theorem ldn_of {C : Ctx} {H : AHeap} {a : AAd} : ∀ {n j : Nat} {l : List AVal}, l.length = n → (∀ k, k < n → ldc C H a (j + k) = l[k]?) → ldn C H a j n = some l
  | 0, j, l, h, _ => by simp only [ldn]; rw [List.length_eq_zero_iff.1 h]
  | n + 1, j, [], h, _ => by simp at h
  | n + 1, j, v :: l, h, hk => by
    have h0 := hk 0 (by omega)
    simp only [Nat.add_zero, List.getElem?_cons_zero] at h0
    have ih := ldn_of (C := C) (H := H) (a := a) (n := n) (j := j + 1) (l := l) (by simpa using h) (fun k hk' => by
      have := hk (k + 1) (by omega)
      rw [show j + 1 + k = j + (k + 1) by omega, this]; simp)
    simp only [ldn, h0, ih]

theorem ldc_addA {C : Ctx} {H : AHeap} (a : AAd) (m j : Nat) : ldc C H (addA a m) j = ldc C H a (m + j) := by
  cases a with
  | loc i o => simp only [addA, ldc, Nat.add_assoc]
  | base a => simp only [addA, ldc, addr_add_add]

theorem addA_addA (a : AAd) (m j : Nat) : addA (addA a m) j = addA a (m + j) := by
  cases a with
  | loc i o => simp only [addA, Nat.add_assoc]
  | base a => simp only [addA, addr_add_add]

theorem idOf_addA (a : AAd) (m : Nat) : idOf (addA a m) = idOf a := by cases a <;> rfl
attribute [simp] ldc_addA addA_addA idOf_addA

/-- one element -/
theorem Sl.idx {C : Ctx} {H : AHeap} {esz : Nat} {x : AVal} {n : Nat} {cells : List AVal} (h : Sl C H esz x n cells) (hx : ∀ s, x ≠ .str s) {i : Nat} (hi : i < n) :
    ∃ p, iaddrO esz x (.int .i64 i) = some (.ptr p) ∧ idOf p = idA x ∧ ∀ (L : AHeap) (k : Nat), k < esz → ldc C (H ++ L) p k = cells[i * esz + k]? := by
  have hin : i * esz + esz ≤ n * esz := by rw [← Nat.succ_mul]; exact Nat.mul_le_mul_right _ hi
  rcases h.kind with ⟨rfl, rfl, _⟩ | ⟨id, rfl, hl⟩ | ⟨a, rfl, hl⟩ | ⟨s, rfl⟩
  · omega
  · refine ⟨.loc id (i * esz), by rw [idx_arr esz id n .i64 i (by omega) (by omega)]; simp, rfl, fun L k hk => ?_⟩
    have := (ldn_get (ldn_app (L := L) hl)).2 (i * esz + k) (by omega)
    rw [Nat.zero_add] at this
    rw [← this]
    simp only [ldc, Nat.zero_add]
  · refine ⟨addA a (i * esz), by rw [idx_slc esz a n .i64 i (by omega) (by omega)]; simp, by cases a <;> rfl, fun L k hk => ?_⟩
    have := (ldn_get (ldn_app (L := L) hl)).2 (i * esz + k) (by omega)
    rw [Nat.zero_add] at this
    rw [← this, ldc_addA]
  · exact absurd rfl (hx s)

/-! a loop that forgets at its head what it need not know -/
def cutT (live : List Nat) (t : Fr) : Fr := fun i => if live.contains i then t i else .any

theorem cutT_mem {live : List Nat} {t : Fr} {i : Nat} (h : live.contains i = true) : cutT live t i = t i := by simp only [cutT, h, if_true]

theorem Weak.cut {X : Fx} {t : Fr} {H L : AHeap} (live : List Nat) (hn : X.n0 ≤ H.length) (hk : ∀ i b, hget H i = some b → ltL H.length b.cells) (hl : ∀ i ∈ live, (t i).lt H.length) : Weak X t (H ++ L) (cutT live t) H := by
  refine ⟨by simp, hn, fun i => ?_, fun i b hb => ⟨b, hget_app_old hb, rfl, Nat.le_refl _, fun j x hx => .inr ⟨hx, fun _ => ltL_iff.1 (hk i b hb) x (List.mem_of_getElem? hx)⟩⟩⟩
  unfold cutT
  split
  · rename_i hc
    exact .inr ⟨rfl, fun _ => hl i (by simpa using hc)⟩
  · exact .inl rfl

theorem FW.loopW {X : Fx} {x : FC} {t : Fr} {H : AHeap} {Q : FQ} (I : Fr → AHeap → Nat → Prop) (m : Nat) (h0 : I t H m)
    (hr : ∀ t H m, I t H m → (∀ i b, hget H i = some b → ltL H.length b.cells) → (∀ i, (t i).lt H.length) → X.n0 ≤ H.length → FWx X x t H (loopQ (fun t H m => ∃ t' H', Weak X t H t' H' ∧ I t' H' m) m Q)) : FW X (.loop x) t H Q := by
  intro c hc σ0 hl a w σ hs
  cases c <;> simp only [comp, reduceCtorEq, Option.some.injEq, Option.map_eq_some_iff, and_false, exists_false] at hc
  case loop p =>
    obtain ⟨fx, hx, e⟩ := hc
    simp only [FC.loop.injEq] at e
    subst e
    refine wp_loop_ghost (fun m a w => ∃ t H σ, I t H m ∧ St X.C σ0 X.n t H a w σ) m ⟨t, H, σ, h0, hs⟩ ?_
    rintro m1 a1 w1 ⟨t1, H1, σ1, hI1, hs1⟩
    have hk : ∀ i b, hget H1 i = some b → ltL H1.length b.cells := by
      intro i b hb
      obtain ⟨s, cs, _, _, _, _, _, hr, _⟩ := hs1.rep.blk i b hb
      have := hr.isLt
      rwa [hs1.rep.len] at this
    have ht : ∀ i, (t1 i).lt H1.length := by
      intro i
      have := (hs1.fr.2 i).isLt
      rwa [hs1.rep.len] at this
    have hn : X.n0 ≤ H1.length := by have := hs1.pre.length_le; have := hs1.rep.len; omega
    refine wp_mono (FWx_sound (hr _ _ _ hI1 hk ht hn) p hx σ0 hl a1 w1 σ1 hs1) ?_
    rintro e a' w' ⟨t', H', σ', q, s⟩
    cases e with
    | normal =>
      obtain ⟨m', hlt, t2, H2, hw, hI'⟩ := q
      exact ⟨m', hlt, t2, H2, _, hI', s.weak hl hw⟩
    | _ => exact ⟨t', H', σ', q, s⟩
  all_goals (repeat' split at hc) <;> simp at hc

/-- a round's end: what was made in it is forgotten -/
theorem loopW_end {X : Fx} {I : Fr → AHeap → Nat → Prop} {m : Nat} {Q : FQ} {t : Fr} {H H1 L : AHeap} (live : List Nat) (m' : Nat) (hlt : m' < m) (hn : X.n0 ≤ H1.length) (hH : H = H1 ++ L) (hk : ∀ i b, hget H1 i = some b → ltL H1.length b.cells)
    (hl : ∀ i ∈ live, (t i).lt H1.length) (hI : I (cutT live t) H1 m') : loopQ (fun t H m => ∃ t' H', Weak X t H t' H' ∧ I t' H' m) m Q .normal t H := by
  subst hH
  exact ⟨m', hlt, _, _, Weak.cut live hn hk hl, hI⟩

theorem app1 {α : Type} (H : List α) (a : α) (L : List α) : H ++ a :: L = (H ++ [a]) ++ L := by simp
theorem app2 {α : Type} (H : List α) (a b : α) (L : List α) : H ++ a :: b :: L = (H ++ [a, b]) ++ L := by simp
theorem app3 {α : Type} (H : List α) (a b c : α) (L : List α) : H ++ a :: b :: c :: L = (H ++ [a, b, c]) ++ L := by simp
theorem app4 {α : Type} (H : List α) (a b c d : α) (L : List α) : H ++ a :: b :: c :: d :: L = (H ++ [a, b, c, d]) ++ L := by simp

theorem nadd {α : Type} (H : List α) (b c : Nat) : H.length + b + c = H.length + (b + c) := Nat.add_assoc _ _ _
attribute [simp] nadd

/-! cuts -/
/-- what is known between two pieces, up to what is forgotten -/
theorem FW.cut {X : Fx} {a b : FC} {t : Fr} {H : AHeap} {Q : FQ} (Mid : Fr → AHeap → Prop) (h1 : FWx X a t H (fun e t H => match e with | .normal => Mid t H | e => Q e t H)) (h2 : ∀ t H, Mid t H → FW X b t H Q) : FW X (.seq a b) t H Q := by
  refine FW.seq ((FWx_sound h1).mono fun e t H h => ?_)
  cases e with
  | normal => exact h2 t H h
  | _ => exact h

def cutQ (Mid : Fr → AHeap → Prop) (Q : FQ) : FQ := fun e t H => match e with | .normal => Mid t H | e => Q e t H
section
variable {Mid : Fr → AHeap → Prop} {Q : FQ} {t : Fr} {H : AHeap}
theorem c_normal : cutQ Mid Q .normal t H = Mid t H := _root_.id rfl
theorem c_exit (j : Nat) : cutQ Mid Q (.exit j) t H = Q (.exit j) t H := _root_.id rfl
theorem c_ret : cutQ Mid Q .ret t H = Q .ret t H := _root_.id rfl
theorem c_goto (j : Nat) : cutQ Mid Q (.goto j) t H = Q (.goto j) t H := _root_.id rfl
end
attribute [simp ↓] c_normal c_exit c_ret c_goto

theorem FW.cut' {X : Fx} {a b : FC} {t : Fr} {H : AHeap} {Q : FQ} (Mid : Fr → AHeap → Prop) (h1 : FWx X a t H (cutQ Mid Q)) (h2 : ∀ t H, Mid t H → FW X b t H Q) : FW X (.seq a b) t H Q := FW.cut Mid h1 h2

/-- a cut behind which the blocks have new numbers -/
theorem FW.cutR {X : Fx} {a b : FC} {t : Fr} {H : AHeap} {Q : FQ} (Mid : Fr → AHeap → Prop) (h1 : FWx X a t H (cutQ (fun t H => ∃ keep, KeepOK X.n0 H keep ∧ Mid (fun i => renV keep (t i)) (renH keep H)) Q)) (h2 : ∀ t H, Mid t H → FW X b t H Q) : FW X (.seq a b) t H Q :=
  FW.cut' _ h1 fun t H ⟨keep, hk, hm⟩ => FW.ren keep hk (h2 _ _ hm)

/-- a cut behind which something is forgotten -/
theorem FW.cutW {X : Fx} {a b : FC} {t : Fr} {H : AHeap} {Q : FQ} (Mid : Fr → AHeap → Prop) (h1 : FWx X a t H (cutQ (fun t H => ∃ t' H', Weak X t H t' H' ∧ Mid t' H') Q)) (h2 : ∀ t H, Mid t H → FW X b t H Q) : FW X (.seq a b) t H Q :=
  FW.cut' _ h1 fun t H ⟨t', H', hw, hm⟩ => FW.weak hw (h2 _ _ hm)

theorem idA_lt {x : AVal} {n : Nat} (h : x.lt n) : ∀ j ∈ idA x, j < n := by
  cases x <;> simp only [idA] <;> try (intro j hj; cases hj; done)
  · rename_i a
    cases a <;> simp only [idOf, AVal.lt, AAd.lt] at h ⊢ <;> intro j hj <;> simp at hj
    subst hj; exact h
  · intro j hj; simp at hj; subst hj; simpa only [AVal.lt] using h
  · rename_i a _
    cases a <;> simp only [idOf, AVal.lt, AAd.lt] at h ⊢ <;> intro j hj <;> simp at hj
    subst hj; exact h

theorem idA_new {x : AVal} {n : Nat} (h : x.lt n) (k : Nat) : n + k ∉ idA x := fun hj => by have := idA_lt h _ hj; omega

/-! ids below a bound -/
mutual
theorem AVal.lt_mono {n m : Nat} (h : n ≤ m) : ∀ {a : AVal}, a.lt n → a.lt m
  | .any, _ => by simp only [AVal.lt]
  | .bool _, _ => by simp only [AVal.lt]
  | .int _ _, _ => by simp only [AVal.lt]
  | .str _, _ => by simp only [AVal.lt]
  | .ptr a, ha => by
    simp only [AVal.lt] at ha ⊢
    cases a with
    | loc i o => simp only [AAd.lt] at ha ⊢; omega
    | base a => trivial
  | .nilp, _ => by simp only [AVal.lt]
  | .arr _ _, ha => by simp only [AVal.lt] at ha ⊢; omega
  | .slc a _, ha => by
    simp only [AVal.lt] at ha ⊢
    cases a with
    | loc i o => simp only [AAd.lt] at ha ⊢; omega
    | base a => trivial
  | .nils, _ => by simp only [AVal.lt]
  | .fn _ l, ha => by simp only [AVal.lt] at ha ⊢; exact ltL_mono h ha
  | .mth _ l, ha => by simp only [AVal.lt] at ha ⊢; exact ltL_mono h ha
  | .nilf, _ => by simp only [AVal.lt]
  | .agg l, ha => by simp only [AVal.lt] at ha ⊢; exact ltL_mono h ha
  | .tup l, ha => by simp only [AVal.lt] at ha ⊢; exact ltL_mono h ha
theorem ltL_mono {n m : Nat} (h : n ≤ m) : ∀ {l : List AVal}, ltL n l → ltL m l
  | [], _ => by simp only [ltL]
  | a :: l, ha => by
    simp only [ltL] at ha ⊢
    exact ⟨AVal.lt_mono h ha.1, ltL_mono h ha.2⟩
end

end Go.F
