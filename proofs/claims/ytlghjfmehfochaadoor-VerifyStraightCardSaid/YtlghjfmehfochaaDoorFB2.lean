/- What a new block, a store, an append do to the abstract heap. -/
import Derived.Test.YtlghjfmehfochaaDoorFB
set_option linter.all false
namespace Go.F
open Go.RowKit

theorem hget_lt {H : AHeap} {i : Nat} {b : ABlk} (h : hget H i = some b) : i < H.length :=
  (List.getElem?_eq_some_iff.1 (hget_eq.1 h)).1

theorem hget_app_lt {H L : AHeap} {i : Nat} (h : i < H.length) : hget (H ++ L) i = hget H i := by
  unfold hget; rw [List.getElem?_append_left h]

theorem hget_app_new {H L : AHeap} {x : Option ABlk} : hget (H ++ x :: L) H.length = x := by
  unfold hget; rw [List.getElem?_append_right (Nat.le_refl _)]; simp

theorem hget_set_same {H : AHeap} {i : Nat} {x : Option ABlk} (h : i < H.length) : hget (H.set i x) i = x := by
  unfold hget; rw [List.getElem?_set_self h]; rfl

theorem hget_set_ne {H : AHeap} {i j : Nat} {x : Option ABlk} (h : j ≠ i) : hget (H.set i x) j = hget H j := by
  unfold hget; rw [List.getElem?_set_ne (Ne.symm h)]

theorem hget_app_cases {H : AHeap} {x : Option ABlk} {i : Nat} {b : ABlk} (h : hget (H ++ [x]) i = some b) : (i < H.length ∧ hget H i = some b) ∨ (i = H.length ∧ x = some b) := by
  have hl := hget_lt h
  simp at hl
  rcases Nat.lt_or_ge i H.length with hi | hi
  · rw [hget_app_lt hi] at h; exact .inl ⟨hi, h⟩
  · have : i = H.length := by omega
    subst this
    rw [hget_app_new] at h
    exact .inr ⟨rfl, h⟩

theorem hget_set_cases {H : AHeap} {x : Option ABlk} {i j : Nat} {b : ABlk} (h : hget (H.set i x) j = some b) : (j ≠ i ∧ hget H j = some b) ∨ (j = i ∧ x = some b) := by
  by_cases e : j = i
  · subst e
    have hl := hget_lt h
    simp at hl
    rw [hget_set_same hl] at h
    exact .inr ⟨rfl, h⟩
  · rw [hget_set_ne e] at h; exact .inl ⟨e, h⟩

theorem sg_app_new {σ : Sg} {x : SI} {n : Nat} (h : σ.length = n) : sg (σ ++ [some x]) n = some x := by subst h; simp [sg]

/-- a new entry at a free place, or behind all -/
def setAt {α : Type} (L : List (Option α)) (p : Nat) (x : α) : List (Option α) := if p < L.length then L.set p (some x) else L ++ [some x]

theorem setAt_len {α : Type} (L : List (Option α)) (x : α) : setAt L L.length x = L ++ [some x] := by simp [setAt]

theorem setAt_get {α : Type} {L : List (Option α)} {p : Nat} (hp : p ≤ L.length) (x : α) (i : Nat) : ((setAt L p x)[i]?).join = if i = p then some x else (L[i]?).join := by
  unfold setAt
  split
  · rename_i h
    rw [List.getElem?_set]
    by_cases e : p = i
    · subst e; simp [h]
    · rw [if_neg e, if_neg (fun q => e q.symm)]
  · rename_i h
    have e : p = L.length := by omega
    subst e
    by_cases e : i = L.length
    · subst e; simp
    · rw [if_neg e]
      rcases Nat.lt_or_ge i L.length with hi | hi
      · rw [List.getElem?_append_left hi]
      · rw [List.getElem?_append_right hi]
        have : i - L.length ≠ 0 := by omega
        obtain ⟨k, hk⟩ : ∃ k, i - L.length = k + 1 := ⟨i - L.length - 1, by omega⟩
        rw [hk, List.getElem?_eq_none (by omega : L.length ≤ i)]
        simp

theorem setAt_length {α : Type} {L : List (Option α)} {p : Nat} {x : α} : (setAt L p x).length = if p < L.length then L.length else L.length + 1 := by
  unfold setAt; split <;> simp

theorem sg_setAt {σ : Sg} {p : Nat} (hp : p ≤ σ.length) (x : SI) (i : Nat) : sg (setAt σ p x) i = if i = p then some x else sg σ i := setAt_get hp x i

theorem hget_setAt {H : AHeap} {p : Nat} (hp : p ≤ H.length) (x : ABlk) (i : Nat) : hget (setAt H p x) i = if i = p then some x else hget H i := setAt_get hp x i

/-- a place that stands for nothing yet -/
structure Free (σ : Sg) (H : AHeap) (p : Nat) : Prop where
  le : p ≤ H.length
  sg : Go.F.sg σ p = none
  hg : hget H p = none

theorem Free.setAt {σ : Sg} {H : AHeap} {p : Nat} (h : Free σ H p) (hl : σ.length = H.length) (s : SI) : SLe σ (setAt σ p s) := by
  intro i s' hs
  rw [sg_setAt (by rw [hl]; exact h.le)]
  split
  · rename_i e; subst e; rw [h.sg] at hs; cases hs
  · exact hs

theorem Free.end {σ : Sg} {H : AHeap} (hl : σ.length = H.length) : Free σ H H.length := by
  refine ⟨Nat.le_refl _, ?_, ?_⟩
  · unfold Go.F.sg; rw [← hl]; simp
  · unfold hget; simp

theorem Rep.live {C : Ctx} {σ : Sg} {H : AHeap} {w : World} (h : Rep C σ H w) {i : Nat} {b : ABlk} (hb : hget H i = some b) : ∃ s c, sg σ i = some s ∧ C.N ≤ s.blk ∧ s.blk < w.heap.size ∧ (∃ fz, w.heap[s.blk]? = some (.cells c b.ty fz) ∧ FzOK fz c.size) ∧ c.size = s.csz ∧
    b.cells.length ≤ c.size ∧ relL σ b.cells (c.toList.take b.cells.length) ∧ (C.P.info? b.ty).map (·.size) = some s.esz := by
  obtain ⟨s, c, h1, h2, h3, h4, h5, h6, h7⟩ := h.blk i b hb
  exact ⟨s, c, h1, h2, (Array.getElem?_eq_some_iff.1 h3.choose_spec.1).1, h3, h4, h5, h6, h7⟩

theorem Rep.allocZ {C : Ctx} {σ : Sg} {H : AHeap} {w w' : World} (h : Rep C σ H w) {p : Nat} (hp : Free σ H p) (hbel : Below C.N C.w0 w') (hold : ∀ k, k < w.heap.size → w'.heap[k]? = w.heap[k]?) {fz : Nat × Nat} {cells : List AVal} {c : Array Value} {ty esz : Nat} (hty : (C.P.info? ty).map (·.size) = some esz)
    (hle : cells.length ≤ c.size) (hrel : relL σ cells (c.toList.take cells.length)) (hnew : w'.heap[w.heap.size]? = some (.cells c ty fz)) (hfz : FzOK fz c.size) :
    Rep C (setAt σ p ⟨w.heap.size, c.size, esz⟩) (setAt H p ⟨cells, ty⟩) w' := by
  have hpre : SLe σ (setAt σ p ⟨w.heap.size, c.size, esz⟩) := hp.setAt h.len _
  have hpσ : p ≤ σ.length := by rw [h.len]; exact hp.le
  refine ⟨by rw [setAt_length, setAt_length, h.len], ?_, ?_, hbel⟩
  · intro i b hb
    rw [hget_setAt hp.le] at hb
    split at hb
    · rename_i e
      subst e
      cases hb
      exact ⟨_, c, by rw [sg_setAt hpσ, if_pos rfl], h.nle, ⟨_, hnew, hfz⟩, rfl, hle, hrel.mono hpre, hty⟩
    · obtain ⟨s, c', hs, h2, hlt, h3, h4, h5, h6, h7⟩ := h.live hb
      exact ⟨s, c', hpre _ _ hs, h2, by rw [hold _ hlt]; exact h3, h4, h5, h6.mono hpre, h7⟩
  · intro i j bi bj si sj hi hj hsi hsj e
    rw [hget_setAt hp.le] at hi hj
    rw [sg_setAt hpσ] at hsi hsj
    split at hi <;> split at hj
    · omega
    · rename_i e1 e2
      rw [if_pos e1] at hsi; rw [if_neg e2] at hsj
      obtain ⟨s, _, hs, _, hlt, _⟩ := h.live hj
      rw [hs] at hsj; cases hsj; cases hsi
      simp at e; omega
    · rename_i e1 e2
      rw [if_neg e1] at hsi; rw [if_pos e2] at hsj
      obtain ⟨s, _, hs, _, hlt, _⟩ := h.live hi
      rw [hs] at hsi; cases hsi; cases hsj
      simp at e; omega
    · rename_i e1 e2
      rw [if_neg e1] at hsi; rw [if_neg e2] at hsj
      exact h.inj i j bi bj si sj hi hj hsi hsj e

theorem Rep.alloc {C : Ctx} {σ : Sg} {H : AHeap} {w : World} (h : Rep C σ H w) {p : Nat} (hp : Free σ H p) {cells : List AVal} {c : Array Value} {ty esz : Nat} (hty : (C.P.info? ty).map (·.size) = some esz)
    (hle : cells.length ≤ c.size) (hrel : relL σ cells (c.toList.take cells.length)) :
    Rep C (setAt σ p ⟨w.heap.size, c.size, esz⟩) (setAt H p ⟨cells, ty⟩) (w.alloc (.cells c ty)) :=
  h.allocZ hp (h.below.alloc h.nle _) (fun _ hk => _root_.Go.heap_alloc_old _ _ hk) hty hle hrel (_root_.Go.heap_alloc_new w _) (FzOK.zero _)

theorem Rep.setRow {C : Ctx} {σ : Sg} {H : AHeap} {w : World} (h : Rep C σ H w) {id : Nat} {b : ABlk} (hb : hget H id = some b) {s : SI} (hs : sg σ id = some s) {cells : List AVal} {c : Array Value}
    (hc : c.size = s.csz) (hle : cells.length ≤ c.size) (hrel : relL σ cells (c.toList.take cells.length)) :
    Rep C σ (H.set id (some ⟨cells, b.ty⟩)) (w.setRow s.blk c) := by
  obtain ⟨s', c0, hs', hN, hlt, ⟨fz, hw, hfz⟩, hcs0, _, _, hty⟩ := h.live hb
  rw [hs] at hs'; cases hs'
  refine ⟨by simp [h.len], ?_, ?_, h.below.trans ⟨rfl, rfl, rfl, by simp, fun k hk => setRow_other w _ k c (by omega)⟩⟩
  · intro i b' hb'
    rcases hget_set_cases hb' with ⟨hi, hb'⟩ | ⟨rfl, he⟩
    · obtain ⟨s2, c2, hs2, h2, _, h3, h4, h5, h6, h7⟩ := h.live hb'
      have hne : s2.blk ≠ s.blk := fun e => hi (h.inj i id b' b s2 s hb' hb hs2 hs e)
      exact ⟨s2, c2, hs2, h2, by rw [setRow_other w _ _ c hne]; exact h3, h4, h5, h6, h7⟩
    · cases he
      exact ⟨s, c, hs, hN, ⟨fz, setRow_heap w s.blk c0 c _ _ hw, by rw [hc, ← hcs0]; exact hfz⟩, hc, hle, hrel, hty⟩
  · intro i j bi bj si sj hi hj hsi hsj e
    have live : ∀ k bk, hget (H.set id (some ⟨cells, b.ty⟩)) k = some bk → ∃ bk', hget H k = some bk' := by
      intro k bk hk
      rcases hget_set_cases hk with ⟨_, hk⟩ | ⟨rfl, _⟩
      · exact ⟨_, hk⟩
      · exact ⟨_, hb⟩
    obtain ⟨_, hi'⟩ := live i bi hi
    obtain ⟨_, hj'⟩ := live j bj hj
    exact h.inj i j _ _ si sj hi' hj' hsi hsj e

theorem Rep.kill {C : Ctx} {σ : Sg} {H : AHeap} {w : World} (h : Rep C σ H w) (id : Nat) : Rep C σ (H.set id none) w := by
  refine ⟨by simp [h.len], ?_, ?_, h.below⟩
  · intro i b hb
    rcases hget_set_cases hb with ⟨_, hb⟩ | ⟨_, hb⟩
    · exact h.blk i b hb
    · cases hb
  · intro i j bi bj si sj hi hj hsi hsj e
    rcases hget_set_cases hi with ⟨_, hi⟩ | ⟨_, hi⟩
    · rcases hget_set_cases hj with ⟨_, hj⟩ | ⟨_, hj⟩
      · exact h.inj i j bi bj si sj hi hj hsi hsj e
      · cases hj
    · cases hi

theorem Free.kill {σ : Sg} {H : AHeap} {p : Nat} (h : Free σ H p) (id : Nat) : Free σ (H.set id none) p := by
  refine ⟨by rw [List.length_set]; exact h.le, h.sg, ?_⟩
  by_cases e : p = id
  · subst e
    rcases Nat.lt_or_ge p H.length with hl | hl
    · rw [hget_set_same hl]
    · unfold hget; rw [List.getElem?_eq_none (by simpa using hl)]; rfl
  · rw [hget_set_ne e]; exact h.hg

/-- A block goes on under a new number. -/
theorem Rep.rename {C : Ctx} {σ : Sg} {H : AHeap} {w : World} (h : Rep C σ H w) {p : Nat} (hp : Free σ H p) {id : Nat} {b : ABlk} (hb : hget H id = some b) {s : SI} (hs : sg σ id = some s) :
    Rep C (setAt σ p s) (setAt (H.set id none) p b) w := by
  have hpre : SLe σ (setAt σ p s) := hp.setAt h.len _
  have hpσ : p ≤ σ.length := by rw [h.len]; exact hp.le
  have hk := h.kill id
  have hpk := hp.kill id
  obtain ⟨s', c0, hs', hN, hlt, hw, hc, hle, hrel, hty⟩ := h.live hb
  rw [hs] at hs'; cases hs'
  refine ⟨by rw [setAt_length, setAt_length, List.length_set, h.len], ?_, ?_, h.below⟩
  · intro i b' hb'
    rw [hget_setAt hpk.le] at hb'
    split at hb'
    · rename_i e
      subst e
      cases hb'
      exact ⟨s, c0, by rw [sg_setAt hpσ, if_pos rfl], hN, hw, hc, hle, hrel.mono hpre, hty⟩
    · obtain ⟨s2, c2, hs2, h2, h3, h4, h5, h6, h7⟩ := hk.blk i b' hb'
      exact ⟨s2, c2, hpre _ _ hs2, h2, h3, h4, h5, h6.mono hpre, h7⟩
  · intro i j bi bj si sj hi hj hsi hsj e
    rw [hget_setAt hpk.le] at hi hj
    rw [sg_setAt hpσ] at hsi hsj
    have old : ∀ k bk, hget (H.set id none) k = some bk → k ≠ id ∧ hget H k = some bk := by
      intro k bk hk
      rcases hget_set_cases hk with ⟨hne, hk⟩ | ⟨_, hk⟩
      · exact ⟨hne, hk⟩
      · cases hk
    split at hi <;> split at hj
    · omega
    · rename_i e1 e2
      rw [if_pos e1] at hsi; rw [if_neg e2] at hsj
      cases hsi
      obtain ⟨hne, hj1⟩ := old j bj hj
      exact absurd (h.inj j id bj b sj s hj1 hb hsj hs e.symm) hne
    · rename_i e1 e2
      rw [if_neg e1] at hsi; rw [if_pos e2] at hsj
      cases hsj
      obtain ⟨hne, hi1⟩ := old i bi hi
      exact absurd (h.inj i id bi b si s hi1 hb hsi hs e) hne
    · rename_i e1 e2
      rw [if_neg e1] at hsi; rw [if_neg e2] at hsj
      exact h.inj i j bi bj si sj (old i bi hi).2 (old j bj hj).2 hsi hsj e

/-- only a part of what is known is kept; blocks behind a number are forgotten -/
theorem Rep.cut {C : Ctx} {σ : Sg} {H : AHeap} {w : World} (h : Rep C σ H w) {H' : AHeap} (hlen : H'.length ≤ H.length)
    (hsub : ∀ i b', hget H' i = some b' → ∃ b, hget H i = some b ∧ b'.ty = b.ty ∧ b'.cells.length ≤ b.cells.length ∧ ∀ (j : Nat) (x : AVal), b'.cells[j]? = some x → x = .any ∨ (b.cells[j]? = some x ∧ x.lt H'.length)) : Rep C (σ.take H'.length) H' w := by
  have hpre : σ.take H'.length <+: σ := List.take_prefix _ _
  have hl : (σ.take H'.length).length = H'.length := by rw [List.length_take, h.len]; omega
  refine ⟨hl, ?_, ?_, h.below⟩
  · intro i b' hb'
    obtain ⟨b, hb, ht, hle, hc⟩ := hsub i b' hb'
    obtain ⟨s, c, hs, h2, h3, h4, h5, h6, h7⟩ := h.blk i b hb
    have hi := hget_lt hb'
    refine ⟨s, c, sg_cut hpre hs (by omega), h2, by rw [ht]; exact h3, h4, by omega, ?_, by rw [ht]; exact h7⟩
    refine relL_iff.2 ⟨?_, fun j a v ha hv => ?_⟩
    · rw [List.length_take, Array.length_toList]; omega
    · rcases hc j a ha with rfl | ⟨ha', hlt⟩
      · simp only [relV]
      · have hj : j < b'.cells.length := (List.getElem?_eq_some_iff.1 ha).1
        refine ((relL_iff.1 h6).2 j a v ha' ?_).cut hpre (by rw [hl]; exact hlt)
        rw [List.getElem?_take] at hv ⊢
        rw [if_pos hj] at hv
        rw [if_pos (by omega)]
        exact hv
  · intro i j bi bj si sj hi hj hsi hsj e
    obtain ⟨b1, hb1, _⟩ := hsub i bi hi
    obtain ⟨b2, hb2, _⟩ := hsub j bj hj
    exact h.inj i j b1 b2 si sj hb1 hb2 (SLe.pre hpre _ _ hsi) (SLe.pre hpre _ _ hsj) e

end Go.F
