/-
  OWN WORK (an AI agent). Part L21k of a walk by simplification over abstract heaps.
-/
import Derived.Test.YtfbkogaijopcgaaFL21j
set_option linter.all false
set_option linter.unusedSimpArgs false
set_option linter.unusedVariables false
set_option maxRecDepth 20000
namespace Go.Proofs.Ytfbkogaijopcgaa
open Go.F Go.RowKit

theorem W_nl {rest : List Int} {st : Nat × Int} (h : (W [10] rest st).2 = 0) : st.2 = 0 ∧ (W [10] rest st).1 = st.1 + 1 ∧ st.1 < rest.length ∧ rest[st.1]? = some 10 := by
  unfold W at h ⊢
  split at h
  · rename_i e
    rw [if_pos e]
    cases hr : rest.drop st.1 with
    | nil => rw [hr] at h; simp [wantL] at h
    | cons x r =>
      rw [hr] at h
      have hx : rest[st.1]? = some x := by
        have := congrArg List.head? hr
        rwa [List.head?_drop] at this
      by_cases hc : x = 10
      · subst hc
        refine ⟨e, by simp [wantL], (List.getElem?_eq_some_iff.1 hx).1, hx⟩
      · simp [wantL, hc] at h
  · rename_i e
    exact absurd h e

theorem oneM_form (rest : List Int) : ∃ st, (oneM rest).1 = W [10] rest st := by
  unfold oneM
  split
  · exact ⟨_, rfl⟩
  · split
    · simp only
      split
      · exact ⟨_, rfl⟩
      · exact ⟨_, rfl⟩
    · split
      · exact ⟨_, rfl⟩
      · exact ⟨_, rfl⟩

theorem oneM_pos {rest : List Int} (h : (oneM rest).1.2 = 0) : 1 ≤ (oneM rest).1.1 ∧ (oneM rest).1.1 ≤ rest.length := by
  obtain ⟨st, hst⟩ := oneM_form rest
  rw [hst] at h ⊢
  obtain ⟨_, h1, h2, _⟩ := W_nl h
  omega

theorem oneM_le (rest : List Int) : (oneM rest).1.1 ≤ rest.length := by
  have a1 : ∀ {p st}, st.1 ≤ rest.length → (W p rest st).1 ≤ rest.length := fun h => W_le h
  have a2 : ∀ {lo hi st}, st.1 ≤ rest.length → (N lo hi rest st).1.1 ≤ rest.length := fun h => N_le h
  have a0 : ((0, 0) : Nat × Int).1 ≤ rest.length := Nat.zero_le _
  unfold oneM
  split
  · exact a1 (a2 (a1 (a2 (a1 (a1 a0)))))
  · split
    · simp only
      split
      · exact a1 (a2 (a1 (a2 (a1 (a2 (a1 (a2 (a1 (a1 (a1 a0))))))))))
      · exact a1 (a2 (a1 (a1 (a1 a0))))
    · split
      · exact a1 (a1 a0)
      · exact a1 (a2 (a1 (a1 a0)))

def Item.es : Item → List Ent
  | .ent e => [e]
  | _ => []
def Item.ds : Item → List Int
  | .draw n => [n]
  | _ => []

structure Out where
  k : Nat
  e : Int
  es : List Ent
  ds : List Int

def Out.put (it : Item) (n : Nat) (r : Out) : Out := ⟨n + r.k, r.e, it.es ++ r.es, it.ds ++ r.ds⟩

def parseF : Nat → List Int → Out
  | 0, _ => ⟨0, 0, [], []⟩
  | m + 1, rest => if rest = [] then ⟨0, 0, [], []⟩ else
    if (oneM rest).1.2 = 0 then (parseF m (rest.drop (oneM rest).1.1)).put (oneM rest).2 (oneM rest).1.1
    else ⟨(oneM rest).1.1, (oneM rest).1.2, (oneM rest).2.es, (oneM rest).2.ds⟩

theorem parseF_fuel : ∀ (m : Nat) (rest : List Int), rest.length ≤ m → parseF (m + 1) rest = parseF m rest
  | 0, rest, h => by
    have : rest = [] := List.length_eq_zero_iff.1 (by omega)
    subst this
    rfl
  | m + 1, rest, h => by
    rw [parseF]
    conv => rhs; rw [parseF]
    by_cases h1 : rest = []
    · rw [if_pos h1, if_pos h1]
    · rw [if_neg h1, if_neg h1]
      by_cases h2 : (oneM rest).1.2 = 0
      · rw [if_pos h2, if_pos h2, parseF_fuel m _ (by have := oneM_pos h2; simp; omega)]
      · rw [if_neg h2, if_neg h2]

theorem parseF_fuel' (m : Nat) (rest : List Int) (h : rest.length ≤ m) : parseF m rest = parseF rest.length rest := by
  obtain ⟨d, rfl⟩ : ∃ d, m = rest.length + d := ⟨m - rest.length, by omega⟩
  clear h
  induction d with
  | zero => rfl
  | succ d ih => rw [show rest.length + (d + 1) = rest.length + d + 1 from rfl, parseF_fuel _ rest (by omega), ih]

/-- a text's lines -/
def parse (rest : List Int) : Out := parseF rest.length rest

theorem parse_nil : parse [] = ⟨0, 0, [], []⟩ := rfl
theorem parse_step {rest : List Int} (h1 : rest ≠ []) (h2 : (oneM rest).1.2 = 0) : parse rest = (parse (rest.drop (oneM rest).1.1)).put (oneM rest).2 (oneM rest).1.1 := by
  unfold parse
  have hp := oneM_pos h2
  obtain ⟨n, hn⟩ : ∃ n, rest.length = n + 1 := ⟨rest.length - 1, by omega⟩
  rw [hn, parseF, if_neg h1, if_pos h2, parseF_fuel' n _ (by simp; omega)]
theorem parse_bad {rest : List Int} (h1 : rest ≠ []) (h2 : (oneM rest).1.2 ≠ 0) : parse rest = ⟨(oneM rest).1.1, (oneM rest).1.2, (oneM rest).2.es, (oneM rest).2.ds⟩ := by
  unfold parse
  have : rest.length ≠ 0 := fun h => h1 (List.length_eq_zero_iff.1 h)
  obtain ⟨n, hn⟩ : ∃ n, rest.length = n + 1 := ⟨rest.length - 1, by omega⟩
  rw [hn, parseF, if_neg h1, if_neg h2]

theorem Bs.cells {C : Ctx} {H : AHeap} {x : AVal} {l : List Int} (h : Bs C H x l) : cellsOf x = some [x] := by
  rcases h.sl.kind with ⟨rfl, _⟩ | ⟨_, rfl, _⟩ | ⟨_, rfl, _⟩ | ⟨s, rfl⟩ <;> rfl

/-- before a line -/
def parI (C : Ctx) (H : AHeap) (xb : AVal) (bs : List Int) (t : Fr) (H' : AHeap) (m : Nat) : Prop :=
  ∃ (a : Nat) (e : Int) (E : List Ent) (D : List Int) (ve vd : AVal) (oe od : Option ABlk), t 0 = xb ∧ t 2 = .ptr (.loc H.length 0) ∧ t 5 = .ptr (.loc (H.length + 1) 0) ∧ a ≤ bs.length ∧
    H' = HP H (some ⟨[ve, vd], 27⟩) xb a (0, e) [oe, od] ∧ NewE ve oe (H.length + 2) E ∧ NewD vd od (H.length + 3) D ∧
    ((e = 0 ∧ E.length ≤ a ∧ D.length ≤ a ∧ parse bs = ⟨a + (parse (bs.drop a)).k, (parse (bs.drop a)).e, E ++ (parse (bs.drop a)).es, D ++ (parse (bs.drop a)).ds⟩ ∧ m = bs.length - a + 1) ∨ (e ≠ 0 ∧ parse bs = ⟨a, e, E, D⟩ ∧ m = 0))

theorem par_next {bs : List Int} {a : Nat} (ha : a < bs.length) {E : List Ent} {D : List Int} (lE : E.length ≤ a) (lD : D.length ≤ a)
    (hp : parse bs = ⟨a + (parse (bs.drop a)).k, (parse (bs.drop a)).e, E ++ (parse (bs.drop a)).es, D ++ (parse (bs.drop a)).ds⟩) :
    let o := oneM (bs.drop a)
    a + o.1.1 ≤ bs.length ∧ ∃ m', m' < bs.length - a + 1 ∧
      ((o.1.2 = 0 ∧ (E ++ o.2.es).length ≤ a + o.1.1 ∧ (D ++ o.2.ds).length ≤ a + o.1.1 ∧ parse bs = ⟨a + o.1.1 + (parse (bs.drop (a + o.1.1))).k, (parse (bs.drop (a + o.1.1))).e, (E ++ o.2.es) ++ (parse (bs.drop (a + o.1.1))).es, (D ++ o.2.ds) ++ (parse (bs.drop (a + o.1.1))).ds⟩ ∧ m' = bs.length - (a + o.1.1) + 1) ∨
       (o.1.2 ≠ 0 ∧ parse bs = ⟨a + o.1.1, o.1.2, E ++ o.2.es, D ++ o.2.ds⟩ ∧ m' = 0)) := by
  intro o
  have hle := oneM_le (bs.drop a)
  have hne : bs.drop a ≠ [] := fun h => by
    have := congrArg List.length h
    simp at this; omega
  simp only [List.length_drop] at hle
  refine ⟨by simp only [o]; omega, ?_⟩
  by_cases he : o.1.2 = 0
  · have hpos := oneM_pos he
    have h1 : o.2.es.length ≤ 1 := by cases o.2 <;> simp [Item.es]
    have h2 : o.2.ds.length ≤ 1 := by cases o.2 <;> simp [Item.ds]
    refine ⟨bs.length - (a + o.1.1) + 1, by have := hpos.1; simp only [o]; omega, .inl ⟨he, ?_, ?_, ?_, rfl⟩⟩
    · rw [List.length_append]; have := hpos.1; simp only [o] at h1 ⊢; omega
    · rw [List.length_append]; have := hpos.1; simp only [o] at h2 ⊢; omega
    · rw [hp, parse_step hne he, List.drop_drop]
      simp only [Out.put, List.append_assoc, Nat.add_assoc]
      rfl
  · refine ⟨0, by omega, .inr ⟨he, ?_, rfl⟩⟩
    rw [hp, parse_bad hne he]

def parEnd (C : Ctx) (H : AHeap) (xb : AVal) (bs : List Int) (t : Fr) (H' : AHeap) : Prop :=
  ∃ (a : Nat) (e : Int) (E : List Ent) (D : List Int) (ve vd : AVal) (oe od : Option ABlk), t 0 = xb ∧ t 2 = .ptr (.loc H.length 0) ∧ t 5 = .ptr (.loc (H.length + 1) 0) ∧
    H' = HP H (some ⟨[ve, vd], 27⟩) xb a (0, e) [oe, od] ∧ NewE ve oe (H.length + 2) E ∧ NewD vd od (H.length + 3) D ∧ parse bs = ⟨a, e, E, D⟩

theorem parse_calls (C : Ctx) (hP : C.P = Try.prog) {H : AHeap} {xb : AVal} {bs : List Int} (hB : Base C H xb bs) (hl : bs.length ≤ 9000) :
    FCalls C 6 [xb] H (fun v H' => ∃ ve vd oe od, H' = H ++ [oe, od] ∧ v = .tup [.agg [ve, vd], .int .i64 (parse bs).e, .int .i64 (if (parse bs).e = 0 then bs.length else (parse bs).k)] ∧
      NewE ve oe H.length (if (parse bs).e = 0 then (parse bs).es else []) ∧ NewD vd od (H.length + 1) (if (parse bs).e = 0 then (parse bs).ds else [])) := by
  refine FCalls.bodyR (hP ▸ v6) (by simp [e6]) fun hw _ => ?_
  generalize hQ : retR _ _ _ = Q
  have ren0 : ∀ ks, renV (keepAt H.length ks) xb = xb := fun ks => renV_keepAt hB.lt
  show FW _ c6 _ _ _
  unfold c6
  refine FW.seq' ?_
  simp (implicitDefEqProofs := false) [e6]
  have h1 : ¬ ((1048576 : Int) < bs.length) := by omega
  refine FW.seq' ?_
  simp (implicitDefEqProofs := false) [hB.b.lenV, h1]
  refine FW.seq' ?_
  simp (implicitDefEqProofs := false) [evalP, fillA, hB.b.cells, setL, boxA]
  refine FW.pad 2 ?_
  refine FW.cut' (parEnd C H xb bs) ?_ ?_
  · simp (implicitDefEqProofs := false)
    refine FW.loopN (parI C H xb bs) (bs.length + 1) ?_ ?_
    · exact ⟨0, 0, [], [], .nils, .nils, none, none, by simp, by simp, by simp, Nat.zero_le _, by simp [HP, rb], .inl ⟨rfl, rfl⟩, .inl ⟨rfl, rfl⟩, .inl ⟨rfl, Nat.le_refl _, Nat.le_refl _, by simp, by omega⟩⟩
    rintro t H' m ⟨a, e, E, D, ve, vd, oe, od, t0, t2, t5, ha, rfl, hE, hD, hm⟩ hk ht hn
    refine FWx.hide fun Q1 hQ1 => ?_
    by_cases he : e = 0
    · subst he
      rcases hm with ⟨_, lE, lD, hp, rfl⟩ | ⟨h, _⟩
      rotate_left
      · exact absurd rfl h
      by_cases h : a < bs.length
      · have h' : (a : Int) < bs.length := by omega
        obtain ⟨n1, m', n2, n3⟩ := par_next h lE lD hp
        simp (implicitDefEqProofs := false) [t0, t2, t5, HP, rb, hB.b.lenV, h']
        refine FWops_callR rfl (by simp [t2]) (one_calls C hP hB hw a ha hE hD (by omega) (by omega)) ?_
        intro v H' ho
        generalize hone : oneM (bs.drop a) = o at n1 n2 n3 ho
        rcases ho with ⟨hi, ve', vd', oe', od', rfl, hE', hD'⟩ | ⟨x, vd', oe', od', hi, rfl, hD'⟩ | ⟨x, ve', oe', od', hi, rfl, hE'⟩
        · simp (implicitDefEqProofs := false)
          rw [hQ1]
          rw [hi] at n3
          refine loopN_end (H1 := H) [0, 1, 2, 3] m' n2 rfl (Nat.le_refl _) (by simp) (by simp [HP]) hw ?_
          refine ⟨a + o.1.1, o.1.2, E, D, _, _, _, _, by simp [t0, ren0], by simp [t2], by simp [t5], n1, by simp [HP, rb, ren0]; exact ⟨⟨rfl, rfl⟩, rfl, rfl⟩, hE'.ren (by simp), hD'.ren (by simp), ?_⟩
          simpa [Item.es, Item.ds] using n3
        · simp (implicitDefEqProofs := false)
          rw [hQ1]
          rw [hi] at n3
          refine loopN_end (H1 := H) [0, 1, 4, 3] m' n2 rfl (Nat.le_refl _) (by simp) (by simp [HP]) hw ?_
          refine ⟨a + o.1.1, o.1.2, E ++ [x], D, .arr (H.length + 2) (E ++ [x]).length, _, some ⟨entC (E ++ [x]), 40⟩, _, by simp [t0, ren0], by simp [t2], by simp [t5], n1, by simp [HP, rb, ren0]; exact ⟨rfl, rfl⟩, .inr ⟨rfl, rfl⟩, hD'.ren (by simp), ?_⟩
          simpa [Item.es, Item.ds] using n3
        · simp (implicitDefEqProofs := false)
          rw [hQ1]
          rw [hi] at n3
          refine loopN_end (H1 := H) [0, 1, 2, 4] m' n2 rfl (Nat.le_refl _) (by simp) (by simp [HP]) hw ?_
          refine ⟨a + o.1.1, o.1.2, E, D ++ [x], _, .arr (H.length + 3) (D ++ [x]).length, _, some ⟨intC (D ++ [x]), 3⟩, by simp [t0, ren0], by simp [t2], by simp [t5], n1, by simp [HP, rb, ren0]; exact ⟨rfl, rfl⟩, hE'.ren (by simp), .inr ⟨rfl, rfl⟩, ?_⟩
          simpa [Item.es, Item.ds] using n3
      · have h' : ¬ (a : Int) < bs.length := by omega
        have hd : bs.drop a = [] := List.drop_eq_nil_of_le (by omega)
        rw [hd, parse_nil] at hp
        simp (implicitDefEqProofs := false) [t0, t2, t5, HP, rb, hB.b.lenV, h']
        rw [hQ1]
        simp (implicitDefEqProofs := false)
        exact ⟨a, 0, E, D, ve, vd, oe, od, by simp [t0], by simp [t2], by simp [t5], rfl, hE, hD, by simpa using hp⟩
    · rcases hm with ⟨h, _⟩ | ⟨_, hp, rfl⟩
      · exact absurd h he
      simp (implicitDefEqProofs := false) [t0, t2, t5, HP, rb, hB.b.lenV, he]
      rw [hQ1]
      simp (implicitDefEqProofs := false)
      exact ⟨a, e, E, D, ve, vd, oe, od, by simp [t0], by simp [t2], by simp [t5], rfl, hE, hD, hp⟩
  rintro t H' ⟨a, e, E, D, ve, vd, oe, od, t0, t2, t5, rfl, hE, hD, hp⟩
  rw [hp] at hQ
  refine FWx_sound ?_
  by_cases he : e = 0
  · simp (implicitDefEqProofs := false) [t0, t2, t5, HP, rb, hB.b.lenV, he, storeA, setL, hE.sc, hD.sc]
    rw [← hQ]
    refine retR_at (H1 := H) [2, 3] rfl rfl (by simp) (by simp) hw ?_
    refine ⟨[.agg [ve, vd], .int .i64 0, .int .i64 bs.length], by simp [e6, t2], _, _, _, _, by simp; exact ⟨rfl, rfl⟩, by simp [he]; exact ⟨rfl, rfl⟩, ?_, ?_⟩
    · simp only [he, if_true]; exact NewE.ren (ks := [2, 3]) (j := 0) hE (by simp)
    · simp only [he, if_true]; exact NewD.ren (ks := [2, 3]) (j := 1) hD (by simp)
  · simp (implicitDefEqProofs := false) [t0, t2, t5, HP, rb, hB.b.lenV, he, evalP, fillA, storeA, setL]
    rw [← hQ]
    refine retR_at (H1 := H) [2, 3] rfl rfl (by simp) (by simp) hw ?_
    exact ⟨[.agg [.nils, .nils], .int .i64 e, .int .i64 a], by simp [e6, t2], .nils, .nils, _, _, by simp; exact ⟨rfl, rfl⟩, by simp [he], .inl ⟨rfl, by simp [he]⟩, .inl ⟨rfl, by simp [he]⟩⟩

end Go.Proofs.Ytfbkogaijopcgaa
