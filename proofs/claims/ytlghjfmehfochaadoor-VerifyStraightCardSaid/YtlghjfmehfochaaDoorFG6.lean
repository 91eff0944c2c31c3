/- Regions whose order is open, with kept places: trees of the orders that differ, and what they are right for. -/
import Derived.Test.YtlghjfmehfochaaDoorFG5
set_option linter.all false
namespace Go.F
open Go.RowKit

abbrev Seen := List (Nat × List Nat × List Nat)

def SeenOK (anc : List Nat) (seen : Seen) (all mods : List Nat) : Prop := ∀ e ∈ seen, e.1 ∈ anc ∨ ((∀ x ∈ e.2.2, x ∉ all) ∧ ∀ x ∈ mods, x ∉ e.2.1)

/-- a call leaves what others have looked at -/
def Keeps (anc : List Nat) (seen : Seen) (H H' : AHeap) : Prop := ∀ e ∈ seen, e.1 ∈ anc ∨ ∀ id ∈ e.2.1, hget H' id = hget H id

def opAll (p : Nat) (t : Fr) (o : FOp) : List Nat := opIds t o ++ opMods p t o

def FStepR (C : Ctx) (h j : Nat) (anc : List Nat) (o : FOper) (seen : Seen) (t : Fr) (H : AHeap) (k : Seen → Fr → AHeap → Prop) : Prop :=
  (runs o t = some false ∧ k seen (putO t o.dst (.tup [])) H) ∨
  (runs o t = some true ∧
    ((regOp o.op = true ∧ ∃ v H', stepAt C (h + j) t H o.op = some (v, H') ∧ (opMods (h + j) t o.op ≠ [] → h + j < H.length) ∧ SeenOK anc seen (opAll (h + j) t o.op) (opMods (h + j) t o.op) ∧
        k ((j, opAll (h + j) t o.op, opMods (h + j) t o.op) :: seen) (putO t o.dst v) H') ∨
     (regOp o.op = false ∧ FWop C o.op t H fun v H' => Keeps anc seen H H' ∧ k seen (putO t o.dst v) H')))

theorem FStepR.mono {C : Ctx} {h j : Nat} {anc : List Nat} {o : FOper} {seen seen' : Seen} {t : Fr} {H : AHeap} {k k' : Seen → Fr → AHeap → Prop} (hs : ∀ e ∈ seen', e ∈ seen) (hk : ∀ s s' t H, (∀ e ∈ s', e ∈ s) → k s t H → k' s' t H)
    (hf : FStepR C h j anc o seen t H k) : FStepR C h j anc o seen' t H k' := by
  rcases hf with ⟨h1, h2⟩ | ⟨h1, ⟨h2, v, H', h3, h4, h5, h6⟩ | ⟨h2, h3⟩⟩
  · exact .inl ⟨h1, hk _ _ _ _ hs h2⟩
  · refine .inr ⟨h1, .inl ⟨h2, v, H', h3, h4, fun e he => h5 e (hs e he), hk _ _ _ _ ?_ h6⟩⟩
    intro e he
    rcases List.mem_cons.1 he with rfl | he
    · simp
    · exact List.mem_cons_of_mem _ (hs e he)
  · exact .inr ⟨h1, .inr ⟨h2, h3.mono fun v H' hh => ⟨fun e he => hh.1 e (hs e he), hk _ _ _ _ hs hh.2⟩⟩⟩

/-- what may follow cares for what was seen, and less is better -/
def Anti (k : Seen → Fr → AHeap → Prop) : Prop := ∀ s s' t H, (∀ e ∈ s', e ∈ s) → k s t H → k s' t H

def quietKl : Kl → Bool
  | .pure => true
  | .load => true
  | .cut => true
  | _ => false

def kindOK (a b : FOp) : Bool := quietKl a.kl || (regOp a && regOp b)

def apartR (a b : FOper) : Bool :=
  (match a.dst with | some d => !(b.slots.contains d) && b.dst != some d | none => true) && (match b.dst with | some d => !(a.slots.contains d) | none => true) && kindOK a.op b.op

theorem pure_none {o : FOp} {p : Nat} {t : Fr} (h : o.kl = .pure) : regOp o = true ∧ opMods p t o = [] ∧ opIds t o = [] := by
  cases o <;> simp only [FOp.kl, reduceCtorEq] at h <;> exact ⟨rfl, rfl, rfl⟩

theorem opIds_congr {t t' : Fr} {o : FOp} (h : ∀ s ∈ o.slots, t s = t' s) : opIds t o = opIds t' o := by
  cases o <;> simp only [opIds] <;> simp only [FOp.slots, List.mem_append, or_imp, forall_and] at h
  · rw [evalO_congr h]
  · rw [evalO_congr h.1]
  · rw [evalO_congr h.1.1.1]
  · rw [evalO_congr h.1, evalO_congr h.2]
  · rw [evalO_congr h]
  · rw [evalO_congr h]

theorem opMods_congr {p : Nat} {t t' : Fr} {o : FOp} (h : ∀ s ∈ o.slots, t s = t' s) : opMods p t o = opMods p t' o := by
  cases o <;> simp only [opMods] <;> simp only [FOp.slots, List.mem_append, or_imp, forall_and] at h
  · rw [evalO_congr h.1]
  · rw [evalO_congr h.1]

theorem opAll_congr {p : Nat} {t t' : Fr} {o : FOp} (h : ∀ s ∈ o.slots, t s = t' s) : opAll p t o = opAll p t' o := by
  rw [opAll, opAll, opIds_congr h, opMods_congr h]

theorem quiet_local {C : Ctx} {p p' : Nat} {t : Fr} {H H' : AHeap} {o : FOp} {v : AVal} {H1 : AHeap} (hq : quietKl o.kl = true) (hag : ∀ id ∈ opIds t o, hget H' id = hget H id) (h : stepAt C p t H o = some (v, H1)) :
    H1 = H ∧ opMods p t o = [] ∧ opMods p' t o = [] ∧ stepAt C p' t H' o = some (v, H') := by
  by_cases hpure : o.kl = .pure
  · obtain ⟨_, pm, _⟩ := pure_none (p := p) (t := t) hpure
    obtain ⟨_, pm', _⟩ := pure_none (p := p') (t := t) hpure
    have e1 := stepAt_pure (C := C) (p := p) (p' := p) (t := t) (H := H) (H' := H) hpure
    have e2 := stepAt_pure (C := C) (p := p) (p' := p') (t := t) (H := H) (H' := H') hpure
    rw [h] at e1 e2
    simp only [Option.map_some, Option.some.injEq, Prod.mk.injEq, true_and] at e1
    exact ⟨e1, pm, pm', e2⟩
  · have quiet : ∀ {r : Option AVal}, r.map (fun v => (v, H)) = some (v, H1) → H1 = H ∧ r.map (fun v => (v, H')) = some (v, H') := by
      intro r hr
      simp only [Option.map_eq_some_iff, Prod.mk.injEq] at hr ⊢
      obtain ⟨v', e, rfl, rfl⟩ := hr
      exact ⟨rfl, v', e, rfl, trivial⟩
    cases o <;> simp only [FOp.kl, quietKl, Bool.false_eq_true, not_true_eq_false, reduceCtorEq] at hq hpure
    · refine ⟨(quiet h).1, rfl, rfl, ?_⟩
      simp only [stepAt]
      rw [loadA_congr (fun id hid => hag id hid)]
      exact (quiet h).2
    · refine ⟨(quiet h).1, rfl, rfl, ?_⟩
      simp only [stepAt]
      rw [sliceA_congr (fun id hid => hag id hid)]
      exact (quiet h).2
    · refine ⟨(quiet h).1, rfl, rfl, ?_⟩
      simp only [stepAt]
      rw [b2sA_congr (fun id hid => hag id hid)]
      exact (quiet h).2

/-- TWO THAT DO NOT TOUCH EACH OTHER, the other way round -/
theorem FStepR.swap {C : Ctx} {h i j : Nat} {ai aj : List Nat} {a b : FOper} {seen : Seen} {t : Fr} {H : AHeap} {k : Seen → Fr → AHeap → Prop} (hk : Anti k) (hap : apartR a b = true) (hij : i ∉ aj)
    (hf : FStepR C h i ai a seen t H fun seen t H => FStepR C h j aj b seen t H k) : FStepR C h j aj b seen t H fun seen t H => FStepR C h i ai a seen t H k := by
  unfold apartR at hap
  simp only [Bool.and_eq_true] at hap
  obtain ⟨⟨h1, h2⟩, h3⟩ := hap
  have d1 : ∀ x, a.dst = some x → x ∉ b.slots := by
    intro x hx; rw [hx] at h1; simp at h1; exact h1.1
  have d2 : ∀ x, a.dst = some x → b.dst ≠ some x := by
    intro x hx; rw [hx] at h1; simp at h1; exact h1.2
  have d3 : ∀ x, b.dst = some x → x ∉ a.slots := by
    intro x hx; rw [hx] at h2; simpa using h2
  have ra : ∀ v, runs a (putO t b.dst v) = runs a t := fun v => runs_congr (putO_slots d3)
  have rb : ∀ v, runs b (putO t a.dst v) = runs b t := fun v => runs_congr (putO_slots d1)
  have cm : ∀ u v, putO (putO t a.dst u) b.dst v = putO (putO t b.dst v) a.dst u := fun u v => putO_comm d2
  have sa : ∀ v, ∀ s ∈ a.op.slots, putO t b.dst v s = t s := fun v s hs => putO_slots d3 s (opslots s hs)
  have sb : ∀ v, ∀ s ∈ b.op.slots, putO t a.dst v s = t s := fun v s hs => putO_slots d1 s (opslots s hs)
  rcases hf with ⟨e1, g⟩ | ⟨e1, ⟨q1, va, Ha, g1, g2, g3, g⟩ | ⟨q1, g⟩⟩
  · -- a is passed over
    rcases g with ⟨e2, g⟩ | ⟨e2, ⟨q2, vb, Hb, g4, g5, g6, g⟩ | ⟨q2, g⟩⟩
    · exact .inl ⟨by rw [← rb]; exact e2, .inl ⟨by rw [ra]; exact e1, by rw [← cm]; exact g⟩⟩
    · rw [stepAt_congr (sb _)] at g4
      rw [opMods_congr (sb _)] at g5 g6 g
      rw [opAll_congr (sb _)] at g6 g
      exact .inr ⟨by rw [← rb]; exact e2, .inl ⟨q2, vb, Hb, g4, g5, g6, .inl ⟨by rw [ra]; exact e1, by rw [← cm]; exact g⟩⟩⟩
    · refine .inr ⟨by rw [← rb]; exact e2, .inr ⟨q2, ((FWop_congr (sb _)).1 g).mono fun v H' hh => ⟨hh.1, .inl ⟨by rw [ra]; exact e1, by rw [← cm]; exact hh.2⟩⟩⟩⟩
  · -- a is done, and calls nothing
    rcases g with ⟨e2, g⟩ | ⟨e2, ⟨q2, vb, Hb, g4, g5, g6, g⟩ | ⟨q2, g⟩⟩
    · refine .inl ⟨by rw [← rb]; exact e2, .inr ⟨by rw [ra]; exact e1, .inl ⟨q1, va, Ha, ?_, ?_, ?_, ?_⟩⟩⟩
      · rw [stepAt_congr (sa _)]; exact g1
      · rw [opMods_congr (sa _)]; exact g2
      · rw [opMods_congr (sa _), opAll_congr (sa _)]; exact g3
      · rw [opMods_congr (sa _), opAll_congr (sa _), ← cm]; exact g
    · rw [stepAt_congr (sb _)] at g4
      rw [opMods_congr (sb _)] at g5 g6 g
      rw [opAll_congr (sb _)] at g6 g
      have hdis := (g6 _ (List.mem_cons_self)).resolve_left hij
      obtain ⟨Hb', s1, s2, s3, s4⟩ := stepAt_swap q1 q2 g2 g5 g1 g4 hdis.1 hdis.2
      refine .inr ⟨by rw [← rb]; exact e2, .inl ⟨q2, vb, Hb', s1, by rw [← s3]; exact g5, fun e he => g6 e (List.mem_cons_of_mem _ he), .inr ⟨by rw [ra]; exact e1, .inl ⟨q1, va, Hb, ?_, ?_, ?_, ?_⟩⟩⟩⟩
      · rw [stepAt_congr (sa _)]; exact s4
      · rw [opMods_congr (sa _), s2]; exact g2
      · rw [opMods_congr (sa _), opAll_congr (sa _)]
        intro e he
        rcases List.mem_cons.1 he with rfl | he
        · exact .inr ⟨hdis.2, hdis.1⟩
        · exact g3 e he
      · rw [opMods_congr (sa _), opAll_congr (sa _), ← cm]
        refine hk _ _ _ _ ?_ g
        intro e he
        simp only [List.mem_cons] at he ⊢
        rcases he with e | e | e
        · exact .inr (.inl e)
        · exact .inl e
        · exact .inr (.inr e)
    · -- b calls: a only looks
      have hquiet : quietKl a.op.kl = true := by
        unfold kindOK at h3
        rw [q2] at h3
        simpa using h3
      obtain ⟨eH, pm, _, _⟩ := quiet_local (p' := h + i) (H' := H) hquiet (fun _ _ => rfl) g1
      subst eH
      have g4 := (FWop_congr (sb _)).1 g
      refine .inr ⟨by rw [← rb]; exact e2, .inr ⟨q2, g4.mono fun v H' hh => ⟨fun e he => hh.1 e (List.mem_cons_of_mem _ he), .inr ⟨by rw [ra]; exact e1, .inl ⟨q1, va, H', ?_, ?_, ?_, ?_⟩⟩⟩⟩⟩
      · have hkeep := (hh.1 _ List.mem_cons_self).resolve_left hij
        rw [stepAt_congr (sa _)]
        exact (quiet_local (p' := h + i) hquiet (fun id hid => hkeep id (by simp [opAll, hid])) g1).2.2.2
      · rw [opMods_congr (sa _), pm]; simp
      · rw [opMods_congr (sa _), opAll_congr (sa _)]
        exact g3
      · rw [opMods_congr (sa _), opAll_congr (sa _), ← cm]
        exact hh.2
  · -- a calls: not apart
    exfalso
    unfold kindOK at h3
    have : a.op.kl = .call ∨ a.op.kl = .acts := by
      cases hh : a.op <;> rw [hh] at q1 <;> simp [regOp, FOp.kl] at q1 ⊢
    rw [q1] at h3
    rcases this with e | e <;> rw [e] at h3 <;> simp [quietKl] at h3

/-! lists and trees of operations -/
def FWopsR (C : Ctx) (h : Nat) (anc : Nat → List Nat) (L : Nat → FOper) : List Nat → Seen → Fr → AHeap → (Fr → AHeap → Prop) → Prop
  | [], _, t, H, K => K t H
  | j :: r, seen, t, H, K => FStepR C h j (anc j) (L j) seen t H fun seen t H => FWopsR C h anc L r seen t H K

theorem FWopsR.anti {C : Ctx} {h : Nat} {anc : Nat → List Nat} {L : Nat → FOper} {K : Fr → AHeap → Prop} : ∀ (l : List Nat), Anti fun s t H => FWopsR C h anc L l s t H K
  | [], _, _, _, _, _, hf => hf
  | j :: r, s, s', t, H, hs, hf => FStepR.mono hs (fun s s' t H hs hh => FWopsR.anti r s s' t H hs hh) hf

/-- move one back from the front -/
theorem backR {C : Ctx} {h : Nat} {anc : Nat → List Nat} {L : Nat → FOper} {j : Nat} {post : List Nat} {K : Fr → AHeap → Prop} : ∀ (pre : List Nat) (seen : Seen) (t : Fr) (H : AHeap), (∀ i ∈ pre, apartR (L j) (L i) = true ∧ j ∉ anc i) →
    FWopsR C h anc L (j :: (pre ++ post)) seen t H K → FWopsR C h anc L (pre ++ j :: post) seen t H K
  | [], _, t, H, _, hf => hf
  | i :: pre, seen, t, H, hap, hf => by
    have h3 := FStepR.swap (FWopsR.anti (pre ++ post)) (hap i (by simp)).1 (hap i (by simp)).2 hf
    rw [List.cons_append, FWopsR]
    refine h3.mono (fun e he => he) fun s s' t' H' hs h' => ?_
    have := backR pre s t' H' (fun k hk => hap k (by simp [hk])) h'
    exact FWopsR.anti _ s s' t' H' hs this

def FWtreeR (C : Ctx) (h : Nat) : RTree → Seen → Fr → AHeap → (Fr → AHeap → Prop) → Prop
  | .done, _, t, H, K => K t H
  | .op j anc o r, seen, t, H, K => FStepR C h j anc o seen t H fun seen t H => FWtreeR C h r seen t H K
  | .both a b, seen, t, H, K => FWtreeR C h a seen t H K ∧ FWtreeR C h b seen t H K
  | .top, _, _, _, _ => True
  | .stuck, _, _, _, _ => False

def safeInR (anc : Nat → List Nat) (L : Nat → FOper) (rem : List Nat) (j : Nat) : Bool := rem.all fun i => i == j || (anc i).contains j || apartR (L j) (L i)

def mkTreeR (A : Nat → List Nat) (anc : Nat → List Nat) (L : Nat → FOper) : Nat → List Nat → RTree
  | 0, _ => .stuck
  | k + 1, rem => if rem.isEmpty then .done else
    match rem.find? fun j => readyIn A rem j && safeInR anc L rem j with
    | some j => .op j (anc j) (L j) (mkTreeR A anc L k (rem.erase j))
    | none => (rem.filter (readyIn A rem)).foldr (fun j T => .both (.op j (anc j) (L j) (mkTreeR A anc L k (rem.erase j))) T) .top

/-- what comes ahead of i in no order cannot stand among those ahead of it -/
theorem Sched.not_anc {A : Nat → List Nat} {n : Nat} {anc : Nat → List Nat} (hm : ∀ (D : List Nat), (∀ d ∈ D, ∀ e ∈ A d, e ∈ D) → ∀ i j, i < n → j ∈ anc i → (∀ e ∈ A i, e ∈ D) → j ∈ D) {j : Nat} {post : List Nat} :
    ∀ {pre d : List Nat}, (∀ x ∈ d, ∀ e ∈ A x, e ∈ d) → j ∉ d → Sched A n d (pre ++ j :: post) → ∀ i ∈ pre, j ∉ anc i
  | [], _, _, _, _, i, hi => by cases hi
  | k :: pre, d, hcl, hj, h, i, hi => by
    cases h with
    | cons h1 h2 h3 h =>
      rcases List.mem_cons.1 hi with rfl | hi
      · exact fun hb => hj (hm d hcl i j h1 hb h3)
      · have hkj : k ≠ j := by
          rintro rfl
          have key : ∀ {s d : List Nat}, Sched A n d s → ∀ x ∈ d, x ∉ s := by
            intro s d hs
            induction hs with
            | nil _ => intro x _ hx; cases hx
            | cons _ hn _ _ ih =>
              intro x hx hxs
              rcases List.mem_cons.1 hxs with rfl | hxs
              · exact hn hx
              · exact ih x (List.mem_cons_of_mem _ hx) hxs
          exact key h k (by simp) (by simp)
        refine Sched.not_anc hm ?_ ?_ h i hi
        · intro x hx e he
          rcases List.mem_cons.1 hx with rfl | hx
          · exact List.mem_cons_of_mem _ (h3 e he)
          · exact List.mem_cons_of_mem _ (hcl x hx e he)
        · intro hin
          rcases List.mem_cons.1 hin with e | hin
          · exact hkj e.symm
          · exact hj hin

theorem foldr_bothR {C : Ctx} {h : Nat} {f : Nat → RTree} {seen : Seen} {t : Fr} {H : AHeap} {K : Fr → AHeap → Prop} : ∀ {l : List Nat}, FWtreeR C h (l.foldr (fun j T => .both (f j) T) .top) seen t H K → ∀ j ∈ l, FWtreeR C h (f j) seen t H K
  | [], _, j, hj => by cases hj
  | i :: l, hf, j, hj => by
    rw [List.foldr_cons] at hf
    rcases List.mem_cons.1 hj with rfl | hj
    · exact hf.1
    · exact foldr_bothR hf.2 j hj

/-- EVERY ORDER IS IN THE TREE, but for operations that do not touch each other. -/
theorem treeR_sound {C : Ctx} {h : Nat} {A : Nat → List Nat} {n : Nat} {anc : Nat → List Nat} {L : Nat → FOper} {K : Fr → AHeap → Prop}
    (hm : ∀ (D : List Nat), (∀ d ∈ D, ∀ e ∈ A d, e ∈ D) → ∀ i j, i < n → j ∈ anc i → (∀ e ∈ A i, e ∈ D) → j ∈ D) :
    ∀ (k : Nat) (rem done s : List Nat), rem.Nodup → (∀ i, i ∈ rem ↔ i < n ∧ i ∉ done) → (∀ d ∈ done, ∀ e ∈ A d, e ∈ done) → (∀ i, i < n → ∀ e ∈ A i, e < n) → Sched A n done s → ∀ (seen : Seen) (t : Fr) (H : AHeap), FWtreeR C h (mkTreeR A anc L k rem) seen t H K → FWopsR C h anc L s seen t H K
  | 0, _, _, _, _, _, _, _, _, _, _, _, hf => hf.elim
  | k + 1, rem, done, s, hnd, hrem, hcl, hlt, hs, seen, t, H, hf => by
    simp only [mkTreeR] at hf
    split at hf
    · rename_i hemp
      have hemp' : rem = [] := by simpa using hemp
      cases hs with
      | nil _ => exact hf
      | @cons _ i s h1 h2 _ _ =>
        have := (hrem i).2 ⟨h1, h2⟩
        rw [hemp'] at this; cases this
    · rename_i hne0
      have step : ∀ j ∈ rem, (∀ e ∈ A j, e ∈ done) → ∀ s', Sched A n (j :: done) s' → ∀ (seen : Seen) (t : Fr) (H : AHeap), FWtreeR C h (mkTreeR A anc L k (rem.erase j)) seen t H K → FWopsR C h anc L s' seen t H K := by
        intro j hj hE s' hs' seen t H hf
        refine treeR_sound hm k (rem.erase j) (j :: done) s' (hnd.erase j) ?_ ?_ hlt hs' seen t H hf
        · intro i
          rw [hnd.mem_erase_iff, hrem i]
          simp only [List.mem_cons, not_or]
          constructor
          · rintro ⟨a, b, c⟩; exact ⟨b, a, c⟩
          · rintro ⟨a, b, c⟩; exact ⟨b, a, c⟩
        · intro d hd e he
          rcases List.mem_cons.1 hd with rfl | hd
          · exact List.mem_cons_of_mem _ (hE e he)
          · exact List.mem_cons_of_mem _ (hcl d hd e he)
      have readyE : ∀ j ∈ rem, readyIn A rem j = true → ∀ e ∈ A j, e ∈ done := by
        intro j hj hr e he
        unfold readyIn at hr
        have h1 := List.all_eq_true.1 hr e he
        have hn : e ∉ rem := by simpa using h1
        have hjn := ((hrem j).1 hj).1
        refine Classical.byContradiction fun hc => hn ((hrem e).2 ⟨hlt j hjn e he, hc⟩)
      split at hf
      · rename_i j hfind
        have hj := List.mem_of_find?_eq_some hfind
        have hp := List.find?_some hfind
        simp only [Bool.and_eq_true] at hp
        have hE := readyE j hj hp.1
        have hjs : j ∈ s := by
          have key : ∀ {s d : List Nat}, Sched A n d s → ∀ x, x < n → x ∉ d → x ∈ s := by
            intro s d hs
            induction hs with
            | nil hall => intro x hx hn; exact absurd (hall x hx) hn
            | @cons d i s _ _ _ _ ih =>
              intro x hx hn
              by_cases e : x = i
              · simp [e]
              · exact List.mem_cons_of_mem _ (ih x hx (by simp [e, hn]))
          exact key hs j ((hrem j).1 hj).1 ((hrem j).1 hj).2
        obtain ⟨pre, post, rfl⟩ := List.append_of_mem hjs
        have hmask := Sched.not_anc hm hcl ((hrem j).1 hj).2 hs
        have hpre : ∀ i ∈ pre, apartR (L j) (L i) = true ∧ j ∉ anc i := by
          intro i hi
          refine ⟨?_, hmask i hi⟩
          have hirem : i ∈ rem ∧ i ≠ j := by
            have key : ∀ {s d : List Nat}, Sched A n d s → ∀ x ∈ s, x < n ∧ x ∉ d := by
              intro s d hs
              induction hs with
              | nil _ => intro x hx; cases hx
              | @cons d i s h1 h2 _ _ ih =>
                intro x hx
                rcases List.mem_cons.1 hx with rfl | hx
                · exact ⟨h1, h2⟩
                · exact ⟨(ih x hx).1, fun h => (ih x hx).2 (List.mem_cons_of_mem _ h)⟩
            refine ⟨(hrem i).2 (key hs i (by simp [hi])), ?_⟩
            rintro rfl
            have := key hs.pull i (by simp [hi])
            exact this.2 (by simp)
          have := List.all_eq_true.1 hp.2 i hirem.1
          simp only [Bool.or_eq_true, beq_iff_eq, List.contains_iff_mem] at this
          rcases this with (e | e) | e
          · exact absurd e hirem.2
          · exact absurd e (hmask i hi)
          · exact e
        refine backR pre seen t H hpre ?_
        exact FStepR.mono (fun e he => he) (fun s s' t' H' hs2 h' => FWopsR.anti _ s s' t' H' hs2 (step j hj hE _ hs.pull s t' H' h')) hf
      · cases hs with
        | nil hall =>
          exfalso
          cases rem with
          | nil => exact hne0 rfl
          | cons r rem => exact absurd (hall r ((hrem r).1 (by simp)).1) ((hrem r).1 (by simp)).2
        | @cons _ i s h1 h2 h3 hs' =>
          have hi : i ∈ rem := (hrem i).2 ⟨h1, h2⟩
          have hr : readyIn A rem i = true := by
            unfold readyIn
            refine List.all_eq_true.2 fun e he => ?_
            have : e ∉ rem := fun hin => ((hrem e).1 hin).2 (h3 e he)
            simpa using this
          have h4 := foldr_bothR hf i (List.mem_filter.2 ⟨hi, hr⟩)
          exact FStepR.mono (fun e he => he) (fun s2 s2' t' H' hs2 h' => FWopsR.anti _ s2 s2' t' H' hs2 (step i hi h3 _ hs' s2 t' H' h')) h4

theorem stands_runs {C : Ctx} {σ0 : Sg} {n : Nat} {ops : Array Oper} {t : Fr} {H : AHeap} {a : Act} {w : World} {σ : Sg} (hst : St C σ0 n t H a w σ) {i : Nat} {o : Oper} {f : FOper} (hc : compOper C.P n ops.toList o = some f) {b : Bool} (hr : runs f t = some b) :
    Region.wanted o (yielded ops a.tmps) = b := by
  obtain ⟨hg, _, _, _⟩ := compOper_some hc
  unfold runs at hr
  cases hgd : o.guard with
  | none =>
    rw [hgd] at hg
    simp only [compGuard, Option.some.injEq] at hg
    rw [← hg] at hr
    simp only [Option.some.injEq] at hr
    rw [← hr]
    simp [Region.wanted, hgd]
  | some g =>
    obtain ⟨j, b'⟩ := g
    rw [hgd] at hg
    simp only [compGuard] at hg
    split at hg
    rotate_left
    · cases hg
    rename_i oj hoj
    simp only [Option.map_eq_some_iff] at hg
    obtain ⟨d, hdj, hg⟩ := hg
    rw [← hg] at hr
    simp only at hr
    have hoj' : ops[j]? = some oj := by rw [← Array.getElem?_toList]; exact hoj
    have hrel := hst.fr.2 d
    split at hr
    · rename_i bb hbb
      rw [hbb] at hrel
      have hval : a.tmps.getD d undef = .bool bb := by simpa only [relV] using hrel
      have hy : yielded ops a.tmps j = some bb := by
        unfold yielded
        simp only [hoj', Option.bind_some, hdj]
        have : a.tmps[d]? = some (.bool bb) := by
          rw [Array.getD_eq_getD_getElem?] at hval
          cases hh : a.tmps[d]? with
          | none => rw [hh] at hval; simp [undef] at hval
          | some v => rw [hh] at hval; simpa using hval
        rw [this]
      simp only [Option.some.injEq] at hr
      rw [← hr]
      simp [Region.wanted, hgd, hy]
    · rename_i l hbb
      rw [hbb] at hrel
      obtain ⟨cs, hval, _⟩ : ∃ cs : Array Value, a.tmps.getD d undef = .tuple cs ∧ relL σ l cs.toList := by simpa only [relV] using hrel
      have hy : yielded ops a.tmps j = none := by
        unfold yielded
        simp only [hoj', Option.bind_some, hdj]
        rw [Array.getD_eq_getD_getElem?] at hval
        cases hh : a.tmps[d]? with
        | none => rfl
        | some v => rw [hh] at hval; simp at hval; rw [hval]
      simp only [Option.some.injEq] at hr
      rw [← hr]
      simp [Region.wanted, hgd, hy]
    · cases hr

theorem FWopsR_sound {C : Ctx} {σ0 : Sg} {n : Nat} {ops : Array Oper} {Q : Exit → Act → World → Prop} {h : Nat} {anc : Nat → List Nat} {L : Nat → FOper} (h0 : σ0.length ≤ h) {K : Fr → AHeap → Prop} (hQ : ∀ t H a w σ, K t H → St C σ0 n t H a w σ → Q .normal a w) : ∀ {idxs : List Nat} {seen : Seen} {t : Fr} {H : AHeap} {a : Act} {w : World} {σ : Sg},
    (∀ i ∈ idxs, Stands C.P n ops i (L i)) → idxs.Nodup → (∀ i ∈ idxs, h + i < σ.length ∧ sg σ (h + i) = none) → FWopsR C h anc L idxs seen t H K → St C σ0 n t H a w σ → wpOps C.P ops Q idxs a w
  | [], _, t, H, a, w, σ, _, _, _, hf, hst => hQ _ _ _ _ _ hf hst
  | j :: r, seen, t, H, a, w, σ, hs, hnd, hfree, hf, hst => by
    obtain ⟨o, ho, hc⟩ := hs j (by simp)
    obtain ⟨hg, hop, hd, hdst⟩ := compOper_some hc
    simp only [wpOps, ho]
    rcases hf with ⟨e1, g⟩ | ⟨e1, ⟨q1, v, H', g1, g2, g3, g⟩ | ⟨q1, g⟩⟩
    · rw [stands_runs (i := j) hst hc e1]
      rw [hdst] at g
      refine FWopsR_sound h0 hQ (fun i hi => hs i (by simp [hi])) (List.nodup_cons.1 hnd).2 (fun i hi => hfree i (by simp [hi])) g (hst.put List.prefix_rfl hst.rep hd ?_)
      simp only [relV]; exact ⟨#[], rfl, by simp [relL]⟩
    · rw [stands_runs (i := j) hst hc e1]
      obtain ⟨f1, f2⟩ := hfree j (by simp)
      have hF : Free σ H (h + j) := by
        refine ⟨by rw [← hst.rep.len]; exact Nat.le_of_lt f1, f2, ?_⟩
        cases hh : hget H (h + j) with
        | none => rfl
        | some b =>
          obtain ⟨s, _, hs', _⟩ := hst.rep.blk _ b hh
          rw [f2] at hs'; cases hs'
      refine .inl (stepAt_sound hst hop hd hF (by omega) g1 fun a' w' σ' hgrow hst' => ?_)
      rw [hdst] at g
      refine FWopsR_sound h0 hQ (fun i hi => hs i (by simp [hi])) (List.nodup_cons.1 hnd).2 (fun i hi => ?_) g hst'
      obtain ⟨k1, k2⟩ := hfree i (by simp [hi])
      have hij : h + i ≠ h + j := by
        have := (List.nodup_cons.1 hnd).1
        intro e
        have : i = j := by omega
        subst this
        exact absurd hi (List.nodup_cons.1 hnd).1
      rcases hgrow with rfl | ⟨s, rfl⟩
      · exact ⟨k1, k2⟩
      · refine ⟨by rw [setAt_length, if_pos f1]; exact k1, ?_⟩
        rw [sg_setAt (Nat.le_of_lt f1), if_neg hij]; exact k2
    · rw [stands_runs (i := j) hst hc e1]
      refine .inl (FWop_soundP hst hop hd g fun v H' a' w' σ' hpre hk hst' => ?_)
      rw [← hdst] at hst'
      refine FWopsR_sound h0 hQ (fun i hi => hs i (by simp [hi])) (List.nodup_cons.1 hnd).2 (fun i hi => ?_) hk.2 hst'
      obtain ⟨k1, k2⟩ := hfree i (by simp [hi])
      exact ⟨Nat.lt_of_lt_of_le k1 hpre.length_le, by rw [sg_pre hpre k1]; exact k2⟩

/-- places kept for what is new -/
theorem St.keep {C : Ctx} {σ0 : Sg} {n : Nat} {t : Fr} {H : AHeap} {a : Act} {w : World} {σ : Sg} (s : St C σ0 n t H a w σ) (k : Nat) : St C σ0 n t (H ++ List.replicate k none) a w (σ ++ List.replicate k none) := by
  have hpre : SLe σ (σ ++ List.replicate k none) := SLe.app _ _
  have hsg : ∀ i s', sg (σ ++ List.replicate k none) i = some s' → sg σ i = some s' := by
    intro i s' hi
    rw [sg_some] at hi ⊢
    rcases Nat.lt_or_ge i σ.length with hl | hl
    · rwa [List.getElem?_append_left hl] at hi
    · rw [List.getElem?_append_right hl, List.getElem?_replicate] at hi
      split at hi <;> simp at hi
  have hH : ∀ i b, hget (H ++ List.replicate k none) i = some b → hget H i = some b := by
    intro i b hi
    rw [hget_eq] at hi ⊢
    rcases Nat.lt_or_ge i H.length with hl | hl
    · rwa [List.getElem?_append_left hl] at hi
    · rw [List.getElem?_append_right hl, List.getElem?_replicate] at hi
      split at hi <;> simp at hi
  refine ⟨s.pre.trans (List.prefix_append _ _), ⟨by simp [s.rep.len], ?_, ?_, s.rep.below⟩, s.fr.mono hpre, s.defers⟩
  · intro i b hb
    obtain ⟨si, c, h1, h2, h3, h4, h5, h6, h7⟩ := s.rep.blk i b (hH i b hb)
    exact ⟨si, c, hpre _ _ h1, h2, h3, h4, h5, h6.mono hpre, h7⟩
  · intro i j bi bj si sj hi hj hsi hsj e
    exact s.rep.inj i j bi bj si sj (hH i bi hi) (hH j bj hj) (hsg i si hsi) (hsg j sj hsj) e

end Go.F
