/-
  OWN WORK (an AI agent). Part L21l of a walk by simplification over abstract heaps.
-/
import Derived.Test.YtfbkogaijopcgaaFL21k
set_option linter.all false
set_option linter.unusedSimpArgs false
set_option linter.unusedVariables false
namespace Go.Proofs.Ytfbkogaijopcgaa
open Go.F Go.RowKit

/-! what is read stays, whatever follows -/
theorem wantL_app : ∀ (p r m : List Int), (wantL p r).2 = 0 → wantL p (r ++ m) = wantL p r
  | [], _, _, _ => rfl
  | _ :: _, [], _, h => by simp [wantL] at h
  | c :: s, x :: r, m, h => by
    simp only [wantL, List.cons_append] at h ⊢
    split
    · rename_i e
      rw [if_pos e] at h
      rw [wantL_app s r m h]
    · rfl

theorem W_app {p rest m : List Int} {st : Nat × Int} (hst : st.1 ≤ rest.length) (h : (W p rest st).2 = 0) : W p (rest ++ m) st = W p rest st := by
  unfold W at h ⊢
  split
  · rename_i e
    rw [if_pos e] at h
    rw [List.drop_append_of_le_length hst, wantL_app _ _ _ h]
  · rfl

theorem W_back {p rest : List Int} {st : Nat × Int} (h : (W p rest st).2 = 0) : st.2 = 0 := by
  unfold W at h
  split at h
  · assumption
  · exact h

theorem W_more {c : Int} {p rest : List Int} {st : Nat × Int} (h : (W (c :: p) rest st).2 = 0) : st.2 = 0 ∧ st.1 < rest.length := by
  have h0 := W_back h
  refine ⟨h0, ?_⟩
  unfold W at h
  rw [if_pos h0] at h
  refine Classical.byContradiction fun hn => ?_
  rw [List.drop_eq_nil_of_le (by omega)] at h
  simp [wantL] at h

theorem N_back {lo hi : Int} {rest : List Int} {st : Nat × Int} (h : (N lo hi rest st).1.2 = 0) : st.2 = 0 := by
  unfold N at h
  split at h
  · assumption
  · exact h

theorem digL_app : ∀ (r m : List Int) (n : Int), (digL n r).1 < r.length → digL n (r ++ m) = digL n r
  | [], _, _, h => by simp at h
  | c :: r, m, n, h => by
    simp only [digL, List.cons_append] at h ⊢
    split
    · rename_i e
      rw [if_pos e] at h
      rw [digL_app r m _ (by simpa using h)]
    · rfl

theorem digAt_app {r m : List Int} (h : 0 < r.length) : digAt (r ++ m) 0 = digAt r 0 := by
  unfold digAt
  rw [List.getElem?_append_left h]

theorem fin_k {lo hi sg : Int} {k : Nat} {n : Int} (h : (finL lo hi sg k n).2.1 = 0) : (finL lo hi sg k n).1 = k := by
  unfold finL at h ⊢
  split
  · rename_i e; rw [if_pos e] at h; simp at h
  · rfl

theorem numT_app {lo hi sg : Int} {k : Nat} {r : List Int} (m : List Int) (h : (numT lo hi sg k r).2.1 = 0) (hl : (numT lo hi sg k r).1 < k + r.length) : numT lo hi sg k (r ++ m) = numT lo hi sg k r := by
  cases r with
  | nil => simp [numT] at h
  | cons c r =>
    simp only [numT, List.cons_append] at h hl ⊢
    by_cases c1 : isDig c = false ∨ sg < 0 ∧ c = 48
    · rw [if_pos c1] at h; simp at h
    · rw [if_neg c1] at h hl ⊢
      rw [if_neg c1]
      by_cases c2 : c = 48
      · rw [if_pos c2] at h hl ⊢
        rw [if_pos c2]
        by_cases c3 : digAt r 0 = true
        · rw [if_pos c3] at h; simp at h
        · rw [if_neg c3] at h hl
          rw [fin_k h] at hl
          have : 0 < r.length := by simp at hl; omega
          rw [digAt_app this]
      · rw [if_neg c2] at h hl ⊢
        rw [if_neg c2]
        rw [fin_k h] at hl
        have := digL_app (c :: r) m 0 (by omega)
        rw [List.cons_append] at this
        rw [this]

theorem numL_cons (lo hi c : Int) (r : List Int) : numL lo hi (c :: r) = if lo < 0 ∧ c = 45 then numT lo hi (-1) 1 r else numT lo hi 1 0 (c :: r) := by
  by_cases h : lo < 0 ∧ c = 45
  · obtain ⟨h1, rfl⟩ := h
    simp [numL, h1]
  · rw [if_neg h]
    simp [numL, h]

theorem numL_app {lo hi : Int} {r : List Int} (m : List Int) (h : (numL lo hi r).2.1 = 0) (hl : (numL lo hi r).1 < r.length) : numL lo hi (r ++ m) = numL lo hi r := by
  cases r with
  | nil => simp at hl
  | cons c r =>
    rw [List.cons_append]
    rw [numL_cons] at h hl ⊢
    rw [numL_cons]
    by_cases e : lo < 0 ∧ c = 45
    · rw [if_pos e] at h hl ⊢
      rw [if_pos e]
      exact numT_app m h (by simp at hl; omega)
    · rw [if_neg e] at h hl ⊢
      rw [if_neg e]
      have := numT_app m h (by simpa using hl)
      rwa [List.cons_append] at this

theorem N_app {lo hi : Int} {rest m : List Int} {st : Nat × Int} (hst : st.1 ≤ rest.length) (h : (N lo hi rest st).1.2 = 0) (hl : (N lo hi rest st).1.1 < rest.length) : N lo hi (rest ++ m) st = N lo hi rest st := by
  unfold N at h hl ⊢
  split
  · rename_i e
    rw [if_pos e] at h hl
    rw [List.drop_append_of_le_length hst, numL_app m h (by simp at hl ⊢; omega)]
  · rfl

theorem oneM_app (rest m : List Int) (h : (oneM rest).1.2 = 0) : oneM (rest ++ m) = oneM rest := by
  have a0 : ((0, 0) : Nat × Int).1 ≤ rest.length := Nat.zero_le _
  have wl : ∀ {p st}, st.1 ≤ rest.length → (W p rest st).1 ≤ rest.length := fun h => W_le h
  have nl : ∀ {lo hi st}, st.1 ≤ rest.length → (N lo hi rest st).1.1 ≤ rest.length := fun h => N_le h
  by_cases c1 : rest.take 1 = [112]
  · have hr : 1 ≤ rest.length := by have := congrArg List.length c1; simp at this; omega
    have c1' : (rest ++ m).take 1 = [112] := by rw [List.take_append_of_le_length hr]; exact c1
    unfold oneM at h ⊢
    rw [if_pos c1] at h ⊢
    rw [if_pos c1']
    simp only at h ⊢
    have l1 := wl (p := [112, 105, 99, 107]) a0
    have l2 := wl (p := [32]) l1
    have l3 := nl (lo := 0) (hi := maxI) l2
    have l4 := wl (p := [32]) l3
    have l5 := nl (lo := 1) (hi := 64) l4
    obtain ⟨e5, k5⟩ := W_more h
    have e4 := N_back e5
    obtain ⟨e3, k3⟩ := W_more e4
    have e2 := N_back e3
    have e1 := W_back e2
    rw [W_app a0 e1, W_app l1 e2, N_app l2 e3 k3, W_app l3 e4, N_app l4 e5 k5, W_app l5 h]
  · by_cases c2 : rest.take 2 = [116, 105]
    · have hr : 2 ≤ rest.length := by have := congrArg List.length c2; simp at this; omega
      have c1' : ¬ (rest ++ m).take 1 = [112] := by rw [List.take_append_of_le_length (by omega)]; exact c1
      have c2' : (rest ++ m).take 2 = [116, 105] := by rw [List.take_append_of_le_length hr]; exact c2
      have w1 := W_ti c2
      have w2 := W_ti c2'
      have b2 : ((2, 0) : Nat × Int).1 ≤ rest.length := hr
      unfold oneM at h ⊢
      rw [if_neg c1, if_pos c2] at h ⊢
      rw [if_neg c1', if_pos c2']
      simp only [w1, w2] at h ⊢
      have key : 2 < rest.length := by
        split at h
        · simp only at h
          exact (W_more (W_back (N_back (W_back (N_back (W_back (N_back (W_back (N_back (W_back h)))))))))).2
        · simp only at h
          exact (W_more (W_back (N_back (W_back h)))).2
      have hd : ((rest ++ m).drop 2).head? = (rest.drop 2).head? := by
        rw [List.head?_drop, List.head?_drop, List.getElem?_append_left key]
      rw [hd]
      by_cases c3 : (rest.drop 2).head? = some 101
      · rw [if_pos c3] at h ⊢
        rw [if_pos c3]
        simp only at h ⊢
        have l1 := wl (p := [101, 114]) b2
        have l2 := wl (p := [32]) l1
        have l3 := nl (lo := 0) (hi := 1023) l2
        have l4 := wl (p := [32]) l3
        have l5 := nl (lo := 0) (hi := 1) l4
        have l6 := wl (p := [32]) l5
        have l7 := nl (lo := 0) (hi := 1) l6
        have l8 := wl (p := [32]) l7
        have l9 := nl (lo := 0) (hi := 4) l8
        obtain ⟨e9, k9⟩ := W_more h
        have e8 := N_back e9
        obtain ⟨e7, k7⟩ := W_more e8
        have e6 := N_back e7
        obtain ⟨e5, k5⟩ := W_more e6
        have e4 := N_back e5
        obtain ⟨e3, k3⟩ := W_more e4
        have e2 := N_back e3
        have e1 := W_back e2
        rw [W_app b2 e1, W_app l1 e2, N_app l2 e3 k3, W_app l3 e4, N_app l4 e5 k5, W_app l5 e6, N_app l6 e7 k7, W_app l7 e8, N_app l8 e9 k9, W_app l9 h]
      · rw [if_neg c3] at h ⊢
        rw [if_neg c3]
        simp only at h ⊢
        have l1 := wl (p := [99, 107]) b2
        have l2 := wl (p := [32]) l1
        have l3 := nl (lo := 0) (hi := 1048576) l2
        obtain ⟨e3, k3⟩ := W_more h
        have e2 := N_back e3
        have e1 := W_back e2
        rw [W_app b2 e1, W_app l1 e2, N_app l2 e3 k3, W_app l3 h]
    · by_cases c3 : rest.take 1 = [116]
      · exfalso
        unfold oneM at h
        rw [if_neg c1, if_neg c2, if_pos c3] at h
        have := W_back h
        revert this
        match rest, c2, c3 with
        | [c], c2, c3 =>
          simp at c3
          subst c3
          intro this
          simp [W, wantL] at this
        | c :: d :: r, c2, c3 =>
          simp at c3
          subst c3
          simp at c2
          intro this
          simp [W, wantL, c2] at this
      · have hlen : 1 < rest.length := by
          unfold oneM at h
          rw [if_neg c1, if_neg c2, if_neg c3] at h
          simp only at h
          have e2 := W_back (N_back (W_back h))
          match rest, e2 with
          | [], e2 => simp [W, wantL] at e2
          | [c], e2 =>
            unfold W at e2
            simp only [if_true, List.drop_zero, wantL] at e2
            split at e2 <;> simp at e2
          | c :: d :: r, _ => simp
        have c1' : ¬ (rest ++ m).take 1 = [112] := by rw [List.take_append_of_le_length (by omega)]; exact c1
        have c2' : ¬ (rest ++ m).take 2 = [116, 105] := by rw [List.take_append_of_le_length (by omega)]; exact c2
        have c3' : ¬ (rest ++ m).take 1 = [116] := by rw [List.take_append_of_le_length (by omega)]; exact c3
        unfold oneM at h ⊢
        rw [if_neg c1, if_neg c2, if_neg c3] at h ⊢
        rw [if_neg c1', if_neg c2', if_neg c3']
        simp only at h ⊢
        have l1 := wl (p := [100, 114, 97, 119]) a0
        have l2 := wl (p := [32]) l1
        have l3 := nl (lo := -2305843009213693952) (hi := maxI) l2
        obtain ⟨e3, k3⟩ := W_more h
        have e2 := N_back e3
        have e1 := W_back e2
        rw [W_app a0 e1, W_app l1 e2, N_app l2 e3 k3, W_app l3 h]

/-- TWO TEXTS, one behind the other -/
theorem parse_app (b : List Int) : ∀ (n : Nat) (a : List Int), a.length ≤ n → (parse a).e = 0 → parse (a ++ b) = ⟨a.length + (parse b).k, (parse b).e, (parse a).es ++ (parse b).es, (parse a).ds ++ (parse b).ds⟩
  | 0, a, hn, _ => by
    have : a = [] := List.length_eq_zero_iff.1 (by omega)
    subst this
    simp [parse_nil]
  | n + 1, a, hn, h => by
    by_cases h1 : a = []
    · subst h1; simp [parse_nil]
    · by_cases h2 : (oneM a).1.2 = 0
      · have hs := parse_step h1 h2
        have hp := oneM_pos h2
        have ho := oneM_app a b h2
        have hne : a ++ b ≠ [] := by simp [h1]
        rw [parse_step hne (by rw [ho]; exact h2), ho, List.drop_append_of_le_length hp.2]
        have he : (parse (a.drop (oneM a).1.1)).e = 0 := by rw [hs] at h; exact h
        rw [parse_app b n _ (by simp; omega) he, hs]
        simp only [Out.put, List.append_assoc, List.length_drop]
        congr 1
        omega
      · rw [parse_bad h1 h2] at h
        exact absurd h h2

end Go.Proofs.Ytfbkogaijopcgaa
