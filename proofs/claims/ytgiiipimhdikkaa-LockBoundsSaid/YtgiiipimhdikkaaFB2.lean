/- What a new block, a store, an append do to the abstract heap. -/
import Derived.Test.YtgiiipimhdikkaaFB
set_option linter.all false
namespace Go.F
open Go.RowKit

theorem hget_lt {H : AHeap} {i : Nat} {b : ABlk} (h : hget H i = some b) : i < H.length :=
  (List.getElem?_eq_some_iff.1 (hget_eq.1 h)).1

theorem hget_app_lt {H L : AHeap} {i : Nat} (h : i < H.length) : hget (H ++ L) i = hget H i := by
  unfold hget; rw [List.getElem?_append_left h]

theorem hget_app_new {H L : AHeap} {x : Option ABlk} : hget (H ++ x :: L) H.length = x := by
  unfold hget; rw [List.getElem?_append_right (Nat.le_refl _)]; simp

theorem hget_set_same {H : AHeap} {i : Nat} {x : Option ABlk} (h : i < H.length) : hget (H.set i x) i = x := by
  unfold hget; rw [List.getElem?_set_self h]; rfl

theorem hget_set_ne {H : AHeap} {i j : Nat} {x : Option ABlk} (h : j ≠ i) : hget (H.set i x) j = hget H j := by
  unfold hget; rw [List.getElem?_set_ne (Ne.symm h)]

theorem hget_app_cases {H : AHeap} {x : Option ABlk} {i : Nat} {b : ABlk} (h : hget (H ++ [x]) i = some b) : (i < H.length ∧ hget H i = some b) ∨ (i = H.length ∧ x = some b) := by
  have hl := hget_lt h
  simp at hl
  rcases Nat.lt_or_ge i H.length with hi | hi
  · rw [hget_app_lt hi] at h; exact .inl ⟨hi, h⟩
  · have : i = H.length := by omega
    subst this
    rw [hget_app_new] at h
    exact .inr ⟨rfl, h⟩

theorem hget_set_cases {H : AHeap} {x : Option ABlk} {i j : Nat} {b : ABlk} (h : hget (H.set i x) j = some b) : (j ≠ i ∧ hget H j = some b) ∨ (j = i ∧ x = some b) := by
  by_cases e : j = i
  · subst e
    have hl := hget_lt h
    simp at hl
    rw [hget_set_same hl] at h
    exact .inr ⟨rfl, h⟩
  · rw [hget_set_ne e] at h; exact .inl ⟨e, h⟩

theorem sg_app_lt {σ : Sg} {x : SI} {i : Nat} {s : SI} (h : σ[i]? = some s) : (σ ++ [x])[i]? = some s := sg_get (List.prefix_append _ _) h

theorem sg_app_new {σ : Sg} {x : SI} {n : Nat} (h : σ.length = n) : (σ ++ [x])[n]? = some x := by subst h; simp

theorem Rep.live {C : Ctx} {σ : Sg} {H : AHeap} {w : World} (h : Rep C σ H w) {i : Nat} {b : ABlk} (hb : hget H i = some b) : ∃ s c, σ[i]? = some s ∧ C.N ≤ s.blk ∧ s.blk < w.heap.size ∧ w.heap[s.blk]? = some (.cells c b.ty (0, 0)) ∧ c.size = s.csz ∧
    b.cells.length ≤ c.size ∧ relL σ b.cells (c.toList.take b.cells.length) ∧ (C.P.info? b.ty).map (·.size) = some s.esz := by
  obtain ⟨s, c, h1, h2, h3, h4, h5, h6, h7⟩ := h.blk i b hb
  exact ⟨s, c, h1, h2, (Array.getElem?_eq_some_iff.1 h3).1, h3, h4, h5, h6, h7⟩

theorem Rep.alloc {C : Ctx} {σ : Sg} {H : AHeap} {w : World} (h : Rep C σ H w) {cells : List AVal} {c : Array Value} {ty esz : Nat} (hty : (C.P.info? ty).map (·.size) = some esz)
    (hle : cells.length ≤ c.size) (hrel : relL σ cells (c.toList.take cells.length)) :
    Rep C (σ ++ [⟨w.heap.size, c.size, esz⟩]) (H ++ [some ⟨cells, ty⟩]) (w.alloc (.cells c ty)) := by
  have hpre : σ <+: σ ++ [⟨w.heap.size, c.size, esz⟩] := List.prefix_append _ _
  refine ⟨by simp [h.len], ?_, ?_, h.below.alloc h.nle _⟩
  · intro i b hb
    rcases hget_app_cases hb with ⟨hi, hb⟩ | ⟨rfl, he⟩
    · obtain ⟨s, c', hs, h2, hlt, h3, h4, h5, h6, h7⟩ := h.live hb
      exact ⟨s, c', sg_get hpre hs, h2, by rw [_root_.Go.heap_alloc_old _ _ hlt]; exact h3, h4, h5, h6.mono hpre, h7⟩
    · cases he
      exact ⟨_, c, sg_app_new h.len, h.nle, _root_.Go.heap_alloc_new w _, rfl, hle, hrel.mono hpre, hty⟩
  · intro i j bi bj si sj hi hj hsi hsj e
    rcases hget_app_cases hi with ⟨hli, hi⟩ | ⟨rfl, hi⟩ <;> rcases hget_app_cases hj with ⟨hlj, hj⟩ | ⟨rfl, hj⟩
    · exact h.inj i j bi bj si sj hi hj (sg_cut hpre hsi (by rw [h.len]; exact hli)) (sg_cut hpre hsj (by rw [h.len]; exact hlj)) e
    · obtain ⟨s, _, hs, _, hlt, _⟩ := h.live hi
      rw [sg_app_lt hs] at hsi; cases hsi
      rw [sg_app_new h.len] at hsj; cases hsj
      simp at e; omega
    · obtain ⟨s, _, hs, _, hlt, _⟩ := h.live hj
      rw [sg_app_lt hs] at hsj; cases hsj
      rw [sg_app_new h.len] at hsi; cases hsi
      simp at e; omega
    · rfl

theorem Rep.setRow {C : Ctx} {σ : Sg} {H : AHeap} {w : World} (h : Rep C σ H w) {id : Nat} {b : ABlk} (hb : hget H id = some b) {s : SI} (hs : σ[id]? = some s) {cells : List AVal} {c : Array Value}
    (hc : c.size = s.csz) (hle : cells.length ≤ c.size) (hrel : relL σ cells (c.toList.take cells.length)) :
    Rep C σ (H.set id (some ⟨cells, b.ty⟩)) (w.setRow s.blk c) := by
  obtain ⟨s', c0, hs', hN, hlt, hw, _, _, _, hty⟩ := h.live hb
  rw [hs] at hs'; cases hs'
  refine ⟨by simp [h.len], ?_, ?_, h.below.trans ⟨rfl, rfl, rfl, by simp, fun k hk => setRow_other w _ k c (by omega)⟩⟩
  · intro i b' hb'
    rcases hget_set_cases hb' with ⟨hi, hb'⟩ | ⟨rfl, he⟩
    · obtain ⟨s2, c2, hs2, h2, _, h3, h4, h5, h6, h7⟩ := h.live hb'
      have hne : s2.blk ≠ s.blk := fun e => hi (h.inj i id b' b s2 s hb' hb hs2 hs e)
      exact ⟨s2, c2, hs2, h2, by rw [setRow_other w _ _ c hne]; exact h3, h4, h5, h6, h7⟩
    · cases he
      exact ⟨s, c, hs, hN, setRow_heap w s.blk c0 c _ _ hw, hc, hle, hrel, hty⟩
  · intro i j bi bj si sj hi hj hsi hsj e
    have live : ∀ k bk, hget (H.set id (some ⟨cells, b.ty⟩)) k = some bk → ∃ bk', hget H k = some bk' := by
      intro k bk hk
      rcases hget_set_cases hk with ⟨_, hk⟩ | ⟨rfl, _⟩
      · exact ⟨_, hk⟩
      · exact ⟨_, hb⟩
    obtain ⟨_, hi'⟩ := live i bi hi
    obtain ⟨_, hj'⟩ := live j bj hj
    exact h.inj i j _ _ si sj hi' hj' hsi hsj e

theorem Rep.kill {C : Ctx} {σ : Sg} {H : AHeap} {w : World} (h : Rep C σ H w) (id : Nat) : Rep C σ (H.set id none) w := by
  refine ⟨by simp [h.len], ?_, ?_, h.below⟩
  · intro i b hb
    rcases hget_set_cases hb with ⟨_, hb⟩ | ⟨_, hb⟩
    · exact h.blk i b hb
    · cases hb
  · intro i j bi bj si sj hi hj hsi hsj e
    rcases hget_set_cases hi with ⟨_, hi⟩ | ⟨_, hi⟩
    · rcases hget_set_cases hj with ⟨_, hj⟩ | ⟨_, hj⟩
      · exact h.inj i j bi bj si sj hi hj hsi hsj e
      · cases hj
    · cases hi

/-- A block goes on under a new number. -/
theorem Rep.rename {C : Ctx} {σ : Sg} {H : AHeap} {w : World} (h : Rep C σ H w) {id : Nat} {b : ABlk} (hb : hget H id = some b) {s : SI} (hs : σ[id]? = some s) :
    Rep C (σ ++ [s]) (H.set id none ++ [some b]) w := by
  have hpre : σ <+: σ ++ [s] := List.prefix_append _ _
  have hk := h.kill id
  obtain ⟨s', c0, hs', hN, hlt, hw, hc, hle, hrel, hty⟩ := h.live hb
  rw [hs] at hs'; cases hs'
  have hlen : (H.set id none).length = H.length := by simp
  refine ⟨by simp [h.len], ?_, ?_, h.below⟩
  · intro i b' hb'
    rcases hget_app_cases hb' with ⟨hi, hb'⟩ | ⟨rfl, he⟩
    · obtain ⟨s2, c2, hs2, h2, h3, h4, h5, h6, h7⟩ := hk.blk i b' hb'
      exact ⟨s2, c2, sg_get hpre hs2, h2, h3, h4, h5, h6.mono hpre, h7⟩
    · cases he
      exact ⟨s, c0, sg_app_new (by rw [hlen]; exact h.len), hN, hw, hc, hle, hrel.mono hpre, hty⟩
  · intro i j bi bj si sj hi hj hsi hsj e
    have old : ∀ k bk sk, hget (H.set id none) k = some bk → (σ ++ [s])[k]? = some sk → k ≠ id ∧ hget H k = some bk ∧ σ[k]? = some sk := by
      intro k bk sk hk hsk
      rcases hget_set_cases hk with ⟨hne, hk⟩ | ⟨_, hk⟩
      · refine ⟨hne, hk, sg_cut hpre hsk (by rw [h.len]; exact hget_lt hk)⟩
      · cases hk
    have new : ∀ sk, (σ ++ [s])[(H.set id none).length]? = some sk → sk = s := by
      intro sk hsk
      rw [sg_app_new (by rw [hlen]; exact h.len)] at hsk; cases hsk; rfl
    rcases hget_app_cases hi with ⟨hli, hi⟩ | ⟨rfl, hi⟩ <;> rcases hget_app_cases hj with ⟨hlj, hj⟩ | ⟨rfl, hj⟩
    · obtain ⟨_, hi1, hi2⟩ := old i bi si hi hsi
      obtain ⟨_, hj1, hj2⟩ := old j bj sj hj hsj
      exact h.inj i j bi bj si sj hi1 hj1 hi2 hj2 e
    · obtain ⟨hne, hi1, hi2⟩ := old i bi si hi hsi
      have := new sj hsj; subst this
      exact absurd (h.inj i id bi b si sj hi1 hb hi2 hs e) hne
    · obtain ⟨hne, hj1, hj2⟩ := old j bj sj hj hsj
      have := new si hsi; subst this
      exact absurd (h.inj j id bj b sj si hj1 hb hj2 hs e.symm) hne
    · rfl

/-- only a part of what is known is kept; blocks behind a number are forgotten -/
theorem Rep.cut {C : Ctx} {σ : Sg} {H : AHeap} {w : World} (h : Rep C σ H w) {H' : AHeap} (hlen : H'.length ≤ H.length)
    (hsub : ∀ i b', hget H' i = some b' → ∃ b, hget H i = some b ∧ b'.ty = b.ty ∧ b'.cells.length ≤ b.cells.length ∧ ∀ (j : Nat) (x : AVal), b'.cells[j]? = some x → x = .any ∨ (b.cells[j]? = some x ∧ x.lt H'.length)) : Rep C (σ.take H'.length) H' w := by
  have hpre : σ.take H'.length <+: σ := List.take_prefix _ _
  have hl : (σ.take H'.length).length = H'.length := by rw [List.length_take, h.len]; omega
  refine ⟨hl, ?_, ?_, h.below⟩
  · intro i b' hb'
    obtain ⟨b, hb, ht, hle, hc⟩ := hsub i b' hb'
    obtain ⟨s, c, hs, h2, h3, h4, h5, h6, h7⟩ := h.blk i b hb
    have hi := hget_lt hb'
    refine ⟨s, c, sg_cut hpre hs (by omega), h2, by rw [ht]; exact h3, h4, by omega, ?_, by rw [ht]; exact h7⟩
    refine relL_iff.2 ⟨?_, fun j a v ha hv => ?_⟩
    · rw [List.length_take, Array.length_toList]; omega
    · rcases hc j a ha with rfl | ⟨ha', hlt⟩
      · simp only [relV]
      · have hj : j < b'.cells.length := (List.getElem?_eq_some_iff.1 ha).1
        refine ((relL_iff.1 h6).2 j a v ha' ?_).cut hpre (by rw [hl]; exact hlt)
        rw [List.getElem?_take] at hv ⊢
        rw [if_pos hj] at hv
        rw [if_pos (by omega)]
        exact hv
  · intro i j bi bj si sj hi hj hsi hsj e
    obtain ⟨b1, hb1, _⟩ := hsub i bi hi
    obtain ⟨b2, hb2, _⟩ := hsub j bj hj
    exact h.inj i j b1 b2 si sj hb1 hb2 (sg_get hpre hsi) (sg_get hpre hsj) e

end Go.F
