/- Regions whose order is open: every order comes to the same. -/
import Derived.Test.YtlghjfmehfochaaDoorFG
set_option linter.all false
namespace Go.F
open Go.RowKit

/-! what an operation may touch -/
inductive Kl where
  | pure | load | cut | new | acts | call
  deriving DecidableEq

def FOp.kl : FOp → Kl
  | .load _ _ => .load
  | .slice _ _ _ _ _ _ => .cut
  | .alloc _ _ => .new
  | .box _ _ => .new
  | .bslice _ _ _ _ _ => .new
  | .store _ _ _ => .acts
  | .append _ _ _ _ _ => .acts
  | .clear _ _ _ => .acts
  | .s2b _ _ _ => .acts
  | .mkslice _ _ _ _ _ => .new
  | .b2s _ => .load
  | .call _ _ => .call
  | _ => .pure

/-- may the first be done behind the second? (In the text it stands ahead of it.) -/
def klOK : Kl → Kl → Bool
  | .pure, _ => true
  | .call, _ => false
  | _, .pure => true
  | .load, .load => true
  | .load, .cut => true
  | .cut, .load => true
  | .cut, .cut => true
  | .load, .new => true
  | _, _ => false

def apart (a b : FOper) : Bool :=
  (match a.dst with | some d => !(b.slots.contains d) && b.dst != some d | none => true) && (match b.dst with | some d => !(a.slots.contains d) | none => true) && klOK a.op.kl b.op.kl

theorem evalO_congr {t t' : Fr} {x : FOpd} (h : ∀ s ∈ x.slots, t s = t' s) : evalO t x = evalO t' x := by
  cases x with
  | tmp i => exact h i (by simp [FOpd.slots])
  | val v => rfl

theorem evalOs_congr {t t' : Fr} {l : List FOpd} (h : ∀ s ∈ l.flatMap FOpd.slots, t s = t' s) : l.map (evalO t) = l.map (evalO t') := by
  apply List.map_congr_left
  intro x hx
  exact evalO_congr fun s hs => h s (List.mem_flatMap.2 ⟨x, hx, hs⟩)

theorem evalP_congr {t t' : Fr} {l : List (Nat × Nat × FOpd)} (h : ∀ s ∈ l.flatMap (fun p => p.2.2.slots), t s = t' s) : evalP t l = evalP t' l := by
  apply List.map_congr_left
  intro x hx
  rw [evalO_congr fun s hs => h s (List.mem_flatMap.2 ⟨x, hx, hs⟩)]

theorem bnd_congr {t t' : Fr} {d : Int} {x : Option FOpd} (h : ∀ s ∈ (x.map FOpd.slots).getD [], t s = t' s) : bnd t d x = bnd t' d x := by
  cases x with
  | none => rfl
  | some x => simp only [bnd]; rw [evalO_congr (t := t) (t' := t') h]

theorem stepAt_congr {C : Ctx} {p : Nat} {t t' : Fr} {H : AHeap} {o : FOp} (h : ∀ s ∈ o.slots, t s = t' s) : stepAt C p t H o = stepAt C p t' H o := by
  cases o <;> simp only [FOp.slots, List.mem_append, List.not_mem_nil, or_imp, forall_and] at h <;> simp only [stepOp, stepAt]
  case mov x => rw [evalO_congr h]
  case pick c a b => rw [evalO_congr h.1.1, evalO_congr h.1.2, evalO_congr h.2]
  case box ty x => rw [evalO_congr h]
  case build z ps => rw [evalP_congr h]
  case bslice ty e z n ps => rw [evalP_congr h]
  case load n x => rw [evalO_congr h]
  case store n a x => rw [evalO_congr h.1, evalO_congr h.2]
  case nilchk x => rw [evalO_congr h]
  case bin op c x y => rw [evalO_congr h.1, evalO_congr h.2]
  case un op x => rw [evalO_congr h]
  case conv k x => rw [evalO_congr h]
  case mkfn f caps => rw [evalOs_congr h]
  case mkmth f caps => rw [evalOs_congr h]
  case s2b ty sm x => rw [evalO_congr h]
  case b2s x => rw [evalO_congr h]
  case mkslice ty b z x y => rw [evalO_congr h.1, evalO_congr h.2]
  case sliceS x lo hi => rw [evalO_congr h.1.1]; simp only [sliceStr, bnd_congr h.1.2, bnd_congr h.2]
  case slice ty e x lo hi mx => rw [evalO_congr h.1.1.1]; simp only [sliceA, sliceN, bnd_congr h.1.1.2, bnd_congr h.1.2, bnd_congr h.2]
  case faddr o x => rw [evalO_congr h]
  case field o n x => rw [evalO_congr h]
  case iaddr e x i => rw [evalO_congr h.1, evalO_congr h.2]
  case iaddrA l e x i => rw [evalO_congr h.1, evalO_congr h.2]
  case indexS x i => rw [evalO_congr h.1, evalO_congr h.2]
  case extract x i => rw [evalO_congr h]
  case len st x => rw [evalO_congr h]
  case append ty e b s x => rw [evalO_congr h.1, evalO_congr h.2]
  case clear e z x => rw [evalO_congr h]

theorem stepOp_congr {C : Ctx} {t t' : Fr} {H : AHeap} {o : FOp} (h : ∀ s ∈ o.slots, t s = t' s) : stepOp C t H o = stepOp C t' H o := stepAt_congr h

/-- a pure operation does not look at the heap -/
theorem stepAt_pure {C : Ctx} {p p' : Nat} {t : Fr} {H H' : AHeap} {o : FOp} (h : o.kl = .pure) : stepAt C p' t H' o = (stepAt C p t H o).map fun q => (q.1, H') := by
  cases o <;> simp only [FOp.kl, reduceCtorEq] at h <;> simp only [stepOp, stepAt, Option.map_some, Option.map_map, Function.comp_def]
  case pick c a b => split <;> simp
  case faddr o x => split <;> simp
  case extract x i => split <;> simp [Option.map_map, Function.comp_def]

theorem stepOp_pure {C : Ctx} {t : Fr} {H H' : AHeap} {o : FOp} (h : o.kl = .pure) : stepOp C t H' o = (stepOp C t H o).map fun p => (p.1, H') := stepAt_pure h

/-- loads and cuts leave the heap -/
theorem stepOp_quiet {C : Ctx} {t : Fr} {H H' : AHeap} {o : FOp} {v : AVal} (h : o.kl = .load ∨ o.kl = .cut ∨ o.kl = .pure) (hs : stepOp C t H o = some (v, H')) : H' = H := by
  cases o <;> simp only [FOp.kl, reduceCtorEq, or_false, or_true, or_self] at h <;> simp only [stepOp, stepAt, Option.map_eq_some_iff, Option.some.injEq, Prod.mk.injEq] at hs
  case pick c a b => split at hs <;> simp at hs; exact hs.2.symm
  case faddr o x => split at hs <;> simp at hs; exact hs.2.symm
  case extract x i => split at hs <;> simp at hs; obtain ⟨_, _, _, e⟩ := hs; exact e.symm
  case mov x => exact hs.2.symm
  case mkfn x => exact hs.2.symm
  case mkmth x => exact hs.2.symm
  all_goals (obtain ⟨_, _, _, e⟩ := hs; exact e.symm)

theorem ldc_app {C : Ctx} {H L : AHeap} {a : AAd} {j : Nat} {v : AVal} (h : ldc C H a j = some v) : ldc C (H ++ L) a j = some v := by
  cases a with
  | base a => exact h
  | loc id off =>
    simp only [ldc, Option.bind_eq_some_iff] at h ⊢
    obtain ⟨b, hb, hv⟩ := h
    exact ⟨b, by rw [hget_app_lt (hget_lt hb)]; exact hb, hv⟩

theorem ldn_app {C : Ctx} {H L : AHeap} {a : AAd} : ∀ {n j : Nat} {l : List AVal}, ldn C H a j n = some l → ldn C (H ++ L) a j n = some l
  | 0, _, _, h => h
  | n + 1, j, l, h => by
    simp only [ldn] at h ⊢
    split at h
    · rename_i v hv
      split at h
      · rename_i l' hl'
        rw [ldc_app hv]
        simp only
        rw [ldn_app hl']
        exact h
      · cases h
    · cases h

theorem load_app {C : Ctx} {t : Fr} {H L : AHeap} {o : FOp} {v : AVal} {H' : AHeap} (h : o.kl = .load) (hs : stepOp C t H o = some (v, H')) : stepOp C t (H ++ L) o = some (v, H ++ L) := by
  cases o <;> simp only [FOp.kl, reduceCtorEq] at h
  · simp only [stepOp, stepAt, Option.map_eq_some_iff, Prod.mk.injEq] at hs ⊢
    obtain ⟨v', hv', rfl, rfl⟩ := hs
    refine ⟨v', ?_, rfl, trivial⟩
    unfold loadA at hv' ⊢
    split at hv'
    · split at hv'
      · exact ldc_app hv'
      · simp only [Option.map_eq_some_iff] at hv' ⊢
        obtain ⟨l, hl, e⟩ := hv'
        exact ⟨l, ldn_app hl, e⟩
    · cases hv'
  · simp only [stepOp, stepAt, Option.map_eq_some_iff, Prod.mk.injEq] at hs ⊢
    obtain ⟨v', hv', rfl, rfl⟩ := hs
    refine ⟨v', ?_, rfl, trivial⟩
    unfold b2sA at hv' ⊢
    split at hv'
    · exact hv'
    · split at hv'
      · rename_i l hl
        simp only [ldn_app hl]; exact hv'
      · cases hv'
    · split at hv'
      · rename_i l hl
        simp only [ldn_app hl]; exact hv'
      · cases hv'
    · cases hv'

theorem new_app {C : Ctx} {t : Fr} {H H' : AHeap} {o : FOp} {v : AVal} (h : o.kl = .new) (hs : stepOp C t H o = some (v, H')) : ∃ L, H' = H ++ L := by
  cases o <;> simp only [FOp.kl, reduceCtorEq] at h <;> simp only [stepOp, stepAt, setAt_len, Option.map_eq_some_iff, Option.some.injEq, Prod.mk.injEq] at hs
  case alloc => exact ⟨_, hs.2.symm⟩
  case box => split at hs <;> simp at hs; exact ⟨_, hs.2.symm⟩
  case bslice => obtain ⟨_, _, _, e⟩ := hs; exact ⟨_, e.symm⟩
  case mkslice => unfold mksliceA at hs; simp only [setAt_len] at hs; split at hs <;> simp at hs; exact ⟨_, hs.2.2.symm⟩

/-! one guarded operation -/
def FStep (C : Ctx) (o : FOper) (t : Fr) (H : AHeap) (k : Fr → AHeap → Prop) : Prop :=
  match o.guard with
  | none => FWop C o.op t H fun v H' => k (putO t o.dst v) H'
  | some (g, b) => match t g with
    | .bool bb => if bb = b then FWop C o.op t H (fun v H' => k (putO t o.dst v) H') else k (putO t o.dst (.tup [])) H
    | .tup _ => k (putO t o.dst (.tup [])) H
    | _ => False

theorem FWops_cons {C : Ctx} {o : FOper} {l : List FOper} {t : Fr} {H : AHeap} {K : Fr → AHeap → Prop} : FWops C (o :: l) t H K = FStep C o t H fun t' H' => FWops C l t' H' K := by
  rfl

theorem FStep.mono {C : Ctx} {o : FOper} {t : Fr} {H : AHeap} {k k' : Fr → AHeap → Prop} (h : FStep C o t H k) (hk : ∀ t H, k t H → k' t H) : FStep C o t H k' := by
  unfold FStep at h ⊢
  split at h
  · exact h.mono fun v H' h => hk _ _ h
  · split at h
    · split at h
      · rename_i e; rw [if_pos e]; exact h.mono fun v H' h => hk _ _ h
      · rename_i e; rw [if_neg e]; exact hk _ _ h
    · exact hk _ _ h
    · exact h.elim

def runs (o : FOper) (t : Fr) : Option Bool :=
  match o.guard with
  | none => some true
  | some (g, b) => match t g with
    | .bool bb => some (bb == b)
    | .tup _ => some false
    | _ => none

theorem FStep_runs {C : Ctx} {o : FOper} {t : Fr} {H : AHeap} {k : Fr → AHeap → Prop} : FStep C o t H k ↔ (runs o t = some true ∧ FWop C o.op t H fun v H' => k (putO t o.dst v) H') ∨ (runs o t = some false ∧ k (putO t o.dst (.tup [])) H) := by
  unfold FStep runs
  split
  · simp
  · split
    · rename_i b _ _ bb _
      by_cases e : bb = b
      · subst e; simp
      · simp [e]
    · simp
    · simp

theorem runs_congr {o : FOper} {t t' : Fr} (h : ∀ s ∈ o.slots, t s = t' s) : runs o t = runs o t' := by
  unfold runs
  split
  · rfl
  · rename_i g b hg
    rw [h g (by simp [FOper.slots, hg])]

theorem FWop_nocall {C : Ctx} {o : FOp} {t : Fr} {H : AHeap} {k : AVal → AHeap → Prop} (h : o.kl ≠ .call) : FWop C o t H k ↔ ∃ v H', stepOp C t H o = some (v, H') ∧ k v H' := by
  cases o <;> first
    | exact absurd rfl h
    | (simp only [FWop]
       split
       · rename_i v H' hs
         constructor
         · intro h; exact ⟨v, H', hs, h⟩
         · rintro ⟨v', H2, e, h⟩; rw [hs] at e; simp only [Option.some.injEq, Prod.mk.injEq] at e; obtain ⟨rfl, rfl⟩ := e; exact h
       · rename_i hs; simp [hs])

theorem putO_slots {o : FOper} {d : Option Nat} {t : Fr} {v : AVal} (h : ∀ x, d = some x → x ∉ o.slots) : ∀ s ∈ o.slots, putO t d v s = t s := by
  intro s hs
  cases d with
  | none => rfl
  | some x =>
    simp only [putO, put]
    rw [if_neg]
    rintro rfl
    exact h _ rfl hs

theorem putO_comm {a b : Option Nat} {t : Fr} {u v : AVal} (h : ∀ x, a = some x → b ≠ some x) : putO (putO t a u) b v = putO (putO t b v) a u := by
  cases a with
  | none => rfl
  | some x =>
    cases b with
    | none => rfl
    | some y =>
      have hne : x ≠ y := fun e => h x rfl (by rw [e])
      funext i
      simp only [putO, put]
      by_cases h1 : i = y <;> by_cases h2 : i = x <;> simp [h1, h2]
      · omega
      · intro e; omega
      · intro e; omega

theorem FWop_congr {C : Ctx} {o : FOp} {t t' : Fr} {H : AHeap} {k : AVal → AHeap → Prop} (h : ∀ s ∈ o.slots, t s = t' s) : FWop C o t H k ↔ FWop C o t' H k := by
  by_cases hc : o.kl = .call
  · cases o <;> simp only [FOp.kl, reduceCtorEq] at hc
    rename_i f args
    simp only [FOp.slots, List.mem_append, or_imp, forall_and] at h
    simp only [FWop, evalO_congr h.1, evalOs_congr h.2]
  · rw [FWop_nocall hc, FWop_nocall hc, stepOp_congr h]

theorem opslots {o : FOper} : ∀ s ∈ o.op.slots, s ∈ o.slots := fun s hs => by simp [FOper.slots, hs]

/-- two that do not touch each other, the other way round -/
theorem FStep.swap {C : Ctx} {a b : FOper} {t : Fr} {H : AHeap} {k : Fr → AHeap → Prop} (hap : apart a b = true) (h : FStep C a t H fun t H => FStep C b t H k) : FStep C b t H fun t H => FStep C a t H k := by
  unfold apart at hap
  simp only [Bool.and_eq_true] at hap
  obtain ⟨⟨h1, h2⟩, h3⟩ := hap
  have d1 : ∀ x, a.dst = some x → x ∉ b.slots := by
    intro x hx; rw [hx] at h1; simp at h1; exact h1.1
  have d2 : ∀ x, a.dst = some x → b.dst ≠ some x := by
    intro x hx; rw [hx] at h1; simp at h1; exact h1.2
  have d3 : ∀ x, b.dst = some x → x ∉ a.slots := by
    intro x hx; rw [hx] at h2; simpa using h2
  have ra : ∀ v, runs a (putO t b.dst v) = runs a t := fun v => runs_congr (putO_slots d3)
  have rb : ∀ v, runs b (putO t a.dst v) = runs b t := fun v => runs_congr (putO_slots d1)
  have cm : ∀ u v, putO (putO t a.dst u) b.dst v = putO (putO t b.dst v) a.dst u := fun u v => putO_comm d2
  have opa : ∀ v H k, FWop C a.op (putO t b.dst v) H k ↔ FWop C a.op t H k := fun v H k => FWop_congr fun s hs => putO_slots d3 s (opslots s hs)
  have opb : ∀ v H k, FWop C b.op (putO t a.dst v) H k ↔ FWop C b.op t H k := fun v H k => FWop_congr fun s hs => putO_slots d1 s (opslots s hs)
  rw [FStep_runs] at h ⊢
  have hnc : a.op.kl ≠ .call := by intro e; rw [e] at h3; cases b.op.kl <;> simp [klOK] at h3
  rcases h with ⟨e1, g1⟩ | ⟨e1, h⟩
  · -- a runs
    obtain ⟨va, Ha, hsa, g2⟩ := (FWop_nocall hnc).1 g1
    rw [FStep_runs, rb] at g2
    clear g1
    rcases g2 with ⟨e2, g3⟩ | ⟨e2, g3⟩
    · refine .inl ⟨e2, ?_⟩
      have g4 := (opb _ _ _).1 g3
      clear g3
      have goal : FWop C b.op t H (fun u H' => FWop C a.op t H' fun v H'' => k (putO (putO t a.dst v) b.dst u) H'') := by
        by_cases pa : a.op.kl = .pure
        · have eH := stepOp_quiet (.inr (.inr pa)) hsa
          subst eH
          refine g4.mono fun u H' hk => (FWop_nocall hnc).2 ⟨va, H', ?_, hk⟩
          rw [stepOp_pure (H := Ha) pa, hsa]; rfl
        · have hbc : b.op.kl ≠ .call := by
            intro e; rw [e] at h3; cases ha : a.op.kl <;> simp [klOK, ha] at h3 pa
          obtain ⟨u, Hb, hsb, g5⟩ := (FWop_nocall hbc).1 g4
          by_cases pb : b.op.kl = .pure
          · have eH := stepOp_quiet (.inr (.inr pb)) hsb
            subst eH
            refine (FWop_nocall hbc).2 ⟨u, H, ?_, (FWop_nocall hnc).2 ⟨va, Hb, hsa, g5⟩⟩
            rw [stepOp_pure (H := Hb) pb, hsb]; rfl
          · have la : a.op.kl = .load ∨ a.op.kl = .cut := by
              cases ha : a.op.kl <;> cases hb : b.op.kl <;> simp [klOK, ha, hb] at h3 pa pb ⊢
            have eH : Ha = H := stepOp_quiet (by rcases la with e | e <;> simp [e]) hsa
            subst eH
            refine (FWop_nocall hbc).2 ⟨u, Hb, hsb, (FWop_nocall hnc).2 ⟨va, Hb, ?_, g5⟩⟩
            by_cases lb : b.op.kl = .load ∨ b.op.kl = .cut
            · have eb : Hb = Ha := stepOp_quiet (by rcases lb with e | e <;> simp [e]) hsb
              rw [eb]; exact hsa
            · have nb : b.op.kl = .new ∧ a.op.kl = .load := by
                cases ha : a.op.kl <;> cases hb : b.op.kl <;> simp [klOK, ha, hb] at h3 pa pb lb ⊢
              obtain ⟨L, rfl⟩ := new_app nb.1 hsb
              have eq := stepOp_quiet (.inl nb.2) hsa
              exact load_app nb.2 hsa
      refine goal.mono fun u H' hk => ?_
      rw [FStep_runs, ra]
      exact .inl ⟨e1, (opa _ _ _).2 (hk.mono fun v H'' hk => by rw [← cm]; exact hk)⟩
    · refine .inr ⟨e2, ?_⟩
      rw [FStep_runs, ra]
      refine .inl ⟨e1, (opa _ _ _).2 ((FWop_nocall hnc).2 ⟨va, Ha, hsa, ?_⟩)⟩
      rw [← cm]; exact g3
  · -- a is passed over
    rw [FStep_runs, rb] at h
    rcases h with ⟨e2, h⟩ | ⟨e2, h⟩
    · refine .inl ⟨e2, ((opb _ _ _).1 h).mono fun v H' hk => ?_⟩
      rw [FStep_runs, ra]
      exact .inr ⟨e1, by rw [← cm]; exact hk⟩
    · refine .inr ⟨e2, ?_⟩
      rw [FStep_runs, ra]
      exact .inr ⟨e1, by rw [← cm]; exact h⟩

end Go.F
