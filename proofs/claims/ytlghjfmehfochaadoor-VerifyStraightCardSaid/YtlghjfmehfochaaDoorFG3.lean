/- The orders that the model may draw. -/
import Derived.Test.YtlghjfmehfochaaDoorFG2
set_option linter.all false
namespace Go.F
open Go.RowKit

def maskOf (acc : List Nat) (l : List Nat) : Nat := l.foldl (fun s e => s ||| 2 ^ e ||| acc.getD e 0) 0

def befs : List (List Nat) → List Nat → List Nat
  | [], acc => acc
  | l :: r, acc => befs r (acc ++ [maskOf acc l])

theorem maskOf_bit (acc : List Nat) (i : Nat) : ∀ (l : List Nat) (s : Nat), (l.foldl (fun s e => s ||| 2 ^ e ||| acc.getD e 0) s).testBit i = true → s.testBit i = true ∨ ∃ e ∈ l, i = e ∨ (acc.getD e 0).testBit i = true
  | [], s, h => .inl h
  | e :: l, s, h => by
    rw [List.foldl_cons] at h
    rcases maskOf_bit acc i l _ h with h | ⟨e', he', h⟩
    · simp only [Nat.testBit_or, Bool.or_eq_true, Nat.testBit_two_pow] at h
      rcases h with (h | h) | h
      · exact .inl h
      · exact .inr ⟨e, by simp, .inl (of_decide_eq_true h).symm⟩
      · exact .inr ⟨e, by simp, .inr h⟩
    · exact .inr ⟨e', by simp [he'], h⟩

/-- what stands in a mask comes ahead in every order -/
theorem befs_sound (A : List (List Nat)) (D : Nat → Prop) (hD : ∀ d, D d → ∀ e ∈ A.getD d [], D e) : ∀ (done rest : List (List Nat)) (acc : List Nat), A = done ++ rest → acc.length = done.length →
    (∀ j i, (acc.getD j 0).testBit i = true → (∀ e ∈ A.getD j [], D e) → D i) → ∀ j i, ((befs rest acc).getD j 0).testBit i = true → (∀ e ∈ A.getD j [], D e) → D i
  | done, [], acc, _, _, h => h
  | done, l :: rest, acc, hA, hl, h => by
    refine befs_sound A D hD (done ++ [l]) rest (acc ++ [maskOf acc l]) (by simp [hA]) (by simp [hl]) ?_
    intro j i hb he
    rcases Nat.lt_or_ge j acc.length with hj | hj
    · refine h j i ?_ he
      rwa [List.getD_eq_getElem?_getD, List.getElem?_append_left hj, ← List.getD_eq_getElem?_getD] at hb
    · by_cases hj2 : j = acc.length
      · subst hj2
        have e1 : (acc ++ [maskOf acc l]).getD acc.length 0 = maskOf acc l := by simp [List.getD_eq_getElem?_getD]
        rw [e1] at hb
        have e2 : A.getD acc.length [] = l := by rw [hA, hl]; simp [List.getD_eq_getElem?_getD]
        rw [e2] at he
        rcases maskOf_bit acc i l 0 hb with hb | ⟨e, hel, hb⟩
        · simp at hb
        · have hDe := he e hel
          rcases hb with rfl | hb
          · exact hDe
          · exact h e i hb (hD e hDe)
      · have e1 : (acc ++ [maskOf acc l]).getD j 0 = 0 := by
          rw [List.getD_eq_getElem?_getD, List.getElem?_eq_none (by simp; omega)]; rfl
        rw [e1] at hb
        simp at hb

def plainEdge (e : Edge) : Bool := match e.ground with
  | .textOnly _ => false
  | .gcOnly _ => false
  | _ => true

/-- the edges that bind in every order -/
def edgesIn (o : Oper) : List Nat := (o.after.toList.filter plainEdge).map (·.on)

def edgesOf (ops : Array Oper) : List (List Nat) := ops.toList.map edgesIn

def drawOK (ops : Array Oper) (l : List FOper) : Bool :=
  ((edgesOf ops).zipIdx.all fun p => p.1.all fun e => e < p.2) &&
  (let m := befs (edgesOf ops) []
   l.zipIdx.all fun b => l.zipIdx.all fun a => !(a.2 < b.2) || (m.getD b.2 0).testBit a.2 || apart a.1 b.1)

/-- An order that the edges allow. -/
inductive Sched (A : Nat → List Nat) (n : Nat) : List Nat → List Nat → Prop
  | nil {done : List Nat} : (∀ i, i < n → i ∈ done) → Sched A n done []
  | cons {done : List Nat} {i : Nat} {s : List Nat} : i < n → i ∉ done → (∀ e ∈ A i, e ∈ done) → Sched A n (i :: done) s → Sched A n done (i :: s)

theorem countP_lt {p q : Nat → Bool} (hpq : ∀ x, p x = true → q x = true) : ∀ {l : List Nat} {x : Nat}, x ∈ l → q x = true → p x = false → l.countP p < l.countP q
  | y :: l, x, hx, hq, hp => by
    have hle : l.countP p ≤ l.countP q := List.countP_mono_left fun x _ => hpq x
    rcases List.mem_cons.1 hx with rfl | hx
    · rw [List.countP_cons, List.countP_cons, hq, hp]; simp; omega
    · have := countP_lt hpq hx hq hp
      rw [List.countP_cons, List.countP_cons]
      cases hpy : p y with
      | true => rw [hpq y hpy]; simp; omega
      | false => simp; omega

theorem lin_sched (ops : Array Oper) (A : Nat → List Nat) (hA : ∀ (i : Nat) (o : Oper), ops[i]? = some o → A i = edgesIn o) (hlt : ∀ i, i < ops.size → ∀ e ∈ A i, e < i) :
    ∀ (fuel t : Nat) (listed : Array Bool) (acc : List Nat), listed.size = ops.size → (∀ i, i < ops.size → (listed.getD i true = true ↔ i ∈ acc)) → (List.range ops.size).countP (fun i => !acc.contains i) ≤ fuel →
      ∃ s, Region.linearise.go .any ops fuel t listed acc = acc.reverse ++ s ∧ Sched A ops.size acc s
  | 0, t, listed, acc, _, _, hc => by
    refine ⟨[], by simp [Region.linearise.go], .nil fun i hi => ?_⟩
    have h0 : (List.range ops.size).countP (fun i => !acc.contains i) = 0 := by omega
    rw [List.countP_eq_zero] at h0
    have := h0 i (by simpa using hi)
    simpa using this
  | fuel + 1, t, listed, acc, hsz, hl, hc => by
    unfold Region.linearise.go
    generalize hrs : (List.range ops.size).filter (fun i => !listed.getD i true && ((ops[i]?).map (·.after.all fun e => !Region.binds .any e || listed.getD e.on false)).getD false) = rs
    have hlF : ∀ e, e < ops.size → (listed.getD e false = true ↔ e ∈ acc) := by
      intro e he
      have := hl e he
      simp only [Array.getD_eq_getD_getElem?, Array.getElem?_eq_getElem (show e < listed.size by omega), Option.getD_some] at this ⊢
      exact this
    have hmem : ∀ i, i ∈ rs ↔ i < ops.size ∧ i ∉ acc ∧ ∀ e ∈ A i, e ∈ acc := by
      intro i
      rw [← hrs, List.mem_filter, List.mem_range]
      constructor
      · rintro ⟨hi, h⟩
        simp only [Bool.and_eq_true, Bool.not_eq_true', Array.getElem?_eq_getElem hi, Option.map_some, Option.getD_some] at h
        obtain ⟨h1, h2⟩ := h
        refine ⟨hi, fun hin => ?_, fun e he => ?_⟩
        · rw [(hl i hi).2 hin] at h1; cases h1
        · have hget : ops[i]? = some ops[i] := Array.getElem?_eq_getElem hi
          have he2 := he
          rw [hA i _ hget] at he2
          unfold edgesIn at he2
          obtain ⟨ed, hed, rfl⟩ := List.mem_map.1 he2
          obtain ⟨hed1, hed2⟩ := List.mem_filter.1 hed
          have hall := (Array.all_eq_true_iff_forall_mem.1 h2) ed (Array.mem_toList_iff.1 hed1)
          have hb : Region.binds .any ed = true := by
            unfold plainEdge at hed2
            unfold Region.binds
            cases hg : ed.ground <;> simp [hg] at hed2 ⊢
          rw [hb] at hall
          exact (hlF _ (Nat.lt_trans (hlt i hi _ he) hi)).1 (by simpa using hall)
      · rintro ⟨hi, hn, hE⟩
        refine ⟨hi, ?_⟩
        have hget : ops[i]? = some ops[i] := Array.getElem?_eq_getElem hi
        simp only [Bool.and_eq_true, Bool.not_eq_true', hget, Option.map_some, Option.getD_some]
        refine ⟨?_, ?_⟩
        · cases h : listed.getD i true with
          | false => rfl
          | true => exact absurd ((hl i hi).1 h) hn
        · refine Array.all_eq_true_iff_forall_mem.2 fun ed hed => ?_
          by_cases hp : plainEdge ed = true
          · have he : ed.on ∈ A i := by rw [hA i _ hget]; exact List.mem_map.2 ⟨ed, List.mem_filter.2 ⟨Array.mem_toList_iff.2 hed, hp⟩, rfl⟩
            have := (hlF _ (Nat.lt_trans (hlt i hi _ he) hi)).2 (hE _ he)
            simp [this]
          · have hb : Region.binds .any ed = false := by
              unfold plainEdge at hp
              unfold Region.binds
              cases hg : ed.ground <;> simp [hg] at hp ⊢
            simp [hb]
    simp only
    cases hget : rs[t % rs.length]? with
    | none =>
      simp only
      have hemp : rs = [] := by
        cases rs with
        | nil => rfl
        | cons r rs' =>
          rw [List.getElem?_eq_none_iff] at hget
          have := Nat.mod_lt t (show 0 < (r :: rs').length by simp)
          omega
      refine ⟨[], by simp, .nil fun i hi => ?_⟩
      -- the least that is not done could be done
      have key : ∀ k i, i ≤ k → i < ops.size → i ∈ acc := by
        intro k
        induction k with
        | zero =>
          intro i hik hi
          have : i = 0 := by omega
          subst this
          refine Classical.byContradiction fun hn => ?_
          have : 0 ∈ rs := (hmem 0).2 ⟨hi, hn, fun e he => by have := hlt 0 hi e he; omega⟩
          rw [hemp] at this; cases this
        | succ k ih =>
          intro i hik hi
          refine Classical.byContradiction fun hn => ?_
          have : i ∈ rs := (hmem i).2 ⟨hi, hn, fun e he => by
            have h1 := hlt i hi e he
            exact ih e (by omega) (by omega)⟩
          rw [hemp] at this; cases this
      exact key i i (Nat.le_refl _) hi
    | some i =>
      simp only
      have hi := (hmem i).1 (List.mem_of_getElem? hget)
      obtain ⟨h1, h2, h3⟩ := hi
      obtain ⟨s, hs, hsch⟩ := lin_sched ops A hA hlt fuel (t / rs.length) (listed.setIfInBounds i true) (i :: acc) (by simp [hsz]) (fun j hj => by
        simp only [Array.getD_eq_getD_getElem?, Array.getElem?_setIfInBounds, List.mem_cons]
        by_cases e : i = j
        · subst e; simp [hsz, h1]
        · rw [if_neg e]
          have := hl j hj
          rw [Array.getD_eq_getD_getElem?] at this
          rw [this]
          constructor
          · intro h; exact .inr h
          · rintro (h | h)
            · exact absurd h.symm e
            · exact h) (by
        have := countP_lt (p := fun j => !(i :: acc).contains j) (q := fun j => !acc.contains j) (fun x hx => by simp at hx ⊢; exact hx.2) (l := List.range ops.size) (x := i) (by simpa using h1) (by simpa using h2) (by simp)
        omega)
      exact ⟨i :: s, by rw [hs]; simp, .cons h1 h2 h3 hsch⟩

/-- move one to the front -/
theorem front {C : Ctx} {L : Nat → FOper} {j : Nat} {post : List Nat} {K : Fr → AHeap → Prop} : ∀ (pre : List Nat) (t : Fr) (H : AHeap), (∀ i ∈ pre, apart (L i) (L j) = true) → FWops C ((pre ++ j :: post).map L) t H K → FWops C ((j :: (pre ++ post)).map L) t H K
  | [], t, H, _, h => h
  | i :: pre, t, H, hap, h => by
    rw [List.cons_append, List.map_cons, FWops_cons] at h
    have h2 : FStep C (L i) t H fun t H => FStep C (L j) t H fun t H => FWops C ((pre ++ post).map L) t H K := by
      refine h.mono fun t' H' h' => ?_
      have := front pre t' H' (fun k hk => hap k (by simp [hk])) h'
      rwa [List.map_cons, FWops_cons] at this
    have h3 := h2.swap (hap i (by simp))
    rw [List.map_cons, FWops_cons]
    refine h3.mono fun t' H' h' => ?_
    rw [List.cons_append, List.map_cons, FWops_cons]
    exact h'

theorem sched_FWops {C : Ctx} {A : Nat → List Nat} {n : Nat} {L : Nat → FOper} {K : Fr → AHeap → Prop} (hbef : ∀ (done : List Nat), (∀ d ∈ done, ∀ e ∈ A d, e ∈ done) → ∀ i j, i < j → j < n → i ∉ done → (∀ e ∈ A j, e ∈ done) → apart (L i) (L j) = true) :
    ∀ {s done : List Nat}, Sched A n done s → ∀ {rem : List Nat}, List.Pairwise (· < ·) rem → (∀ i, i ∈ rem ↔ i < n ∧ i ∉ done) → (∀ d ∈ done, ∀ e ∈ A d, e ∈ done) → ∀ {t : Fr} {H : AHeap}, FWops C (rem.map L) t H K → FWops C (s.map L) t H K := by
  intro s done hs
  induction hs with
  | nil hall =>
    intro rem _ hrem _ t H h
    cases rem with
    | nil => exact h
    | cons r rem => exact absurd (hall r ((hrem r).1 (by simp)).1) ((hrem r).1 (by simp)).2
  | @cons done j s hj hnd hE hrest ih =>
    intro rem hsorted hrem hcl t H h
    obtain ⟨pre, post, rfl⟩ := List.append_of_mem ((hrem j).2 ⟨hj, hnd⟩)
    rw [List.pairwise_append, List.pairwise_cons] at hsorted
    obtain ⟨sp, ⟨sj, spost⟩, scross⟩ := hsorted
    have h2 := front pre t H (fun i hi => hbef done hcl i j (scross i hi j (by simp)) hj ((hrem i).1 (by simp [hi])).2 hE) h
    rw [List.map_cons, FWops_cons] at h2 ⊢
    refine h2.mono fun t' H' h' => ih ?_ ?_ ?_ h'
    · rw [List.pairwise_append]
      exact ⟨sp, spost, fun a ha b hb => Nat.lt_trans (scross a ha j (by simp)) (sj b hb)⟩
    · intro i
      constructor
      · intro hi
        have hi2 : i ∈ pre ++ j :: post := by
          rcases List.mem_append.1 hi with h | h
          · simp [h]
          · simp [h]
        refine ⟨((hrem i).1 hi2).1, ?_⟩
        intro hin
        rcases List.mem_cons.1 hin with rfl | hin
        · rcases List.mem_append.1 hi with h | h
          · exact absurd (scross i h i (by simp)) (Nat.lt_irrefl _)
          · exact absurd (sj i h) (Nat.lt_irrefl _)
        · exact ((hrem i).1 hi2).2 hin
      · rintro ⟨hi, hn⟩
        have := (hrem i).2 ⟨hi, fun h => hn (by simp [h])⟩
        rcases List.mem_append.1 this with h | h
        · simp [h]
        · rcases List.mem_cons.1 h with rfl | h
          · exact absurd (by simp) hn
          · simp [h]
    · intro d hd e he
      rcases List.mem_cons.1 hd with rfl | hd
      · exact List.mem_cons_of_mem _ (hE e he)
      · exact List.mem_cons_of_mem _ (hcl d hd e he)

end Go.F
