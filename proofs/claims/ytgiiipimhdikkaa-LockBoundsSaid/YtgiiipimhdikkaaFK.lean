/- A run by numbers: where all is known, the kernel runs the code. -/
import Derived.Test.YtgiiipimhdikkaaFJ
set_option linter.all false
namespace Go.F
open Go.RowKit

theorem FW.scope {X : Fx} {x : FC} {t : Fr} {H : AHeap} {Q : FQ} (h : FW X x t H (fun e t H => match e with | .goto _ => False | e => Q e t H)) : FW X (.scope x) t H Q := by
  intro c hc σ0 hl a w σ hs
  cases c <;> simp only [comp, reduceCtorEq, Option.some.injEq, Option.map_eq_some_iff, and_false, exists_false] at hc
  case scope p =>
    obtain ⟨fx, hx, e⟩ := hc
    simp only [FC.scope.injEq] at e
    subst e
    refine wp_scope_straight (wp_mono (h p hx σ0 hl a w σ hs) ?_)
    rintro e a' w' ⟨t', H', σ', q, s⟩
    cases e with
    | goto j => exact q.elim
    | _ => exact ⟨t', H', σ', q, s⟩
  all_goals (repeat' split at hc) <;> simp at hc

structure FEnt where
  n : Nat
  code : FC
  res : List FRes

/-- an entry is the function's own code -/
def Valid (P : Program) (f : Nat) (e : FEnt) : Prop :=
  ∃ fn c, P.funcs[f]? = some fn ∧ fn.body = some c ∧ (fn.name == "runtime.NumGoroutine") = false ∧ fn.ntmps = e.n ∧ comp P e.n c = some e.code ∧ compRes P e.n fn.results.toList = some e.res

theorem FCalls.entry {C : Ctx} {f : Nat} {e : FEnt} (hv : Valid C.P f e) {args : List AVal} {H : AHeap} {Post : AVal → AHeap → Prop} (hargs : args.length ≤ e.n)
    (h : (∀ i b, hget H i = some b → ltL H.length b.cells) → ltL H.length args → FW ⟨C, e.n, H.length⟩ e.code (frA args) H (retQ ⟨C, e.n, H.length⟩ e.res Post)) : FCalls C f args H Post := by
  obtain ⟨fn, c, h1, h2, h3, h4, h5, h6⟩ := hv
  rw [← h4] at h5 h6 hargs h
  exact FCalls.body h1 h2 h3 h5 h6 hargs h

abbrev CallF := Nat → List AVal → AHeap → Option (AVal × AHeap)

def execOp1 (C : Ctx) (call : CallF) (o : FOp) (t : Fr) (H : AHeap) : Option (AVal × AHeap) :=
  match o with
  | .call f args => match evalO t f with
    | .fn fi caps => call fi (args.map (evalO t) ++ caps) H
    | _ => none
  | o => stepOp C t H o

def execOps (C : Ctx) (call : CallF) : List FOper → Fr → AHeap → Option (Fr × AHeap)
  | [], t, H => some (t, H)
  | o :: r, t, H => match o.guard with
    | none => match execOp1 C call o.op t H with
      | some (v, H') => execOps C call r (putO t o.dst v) H'
      | none => none
    | some (g, b) => match t g with
      | .bool bb => if bb = b then (match execOp1 C call o.op t H with
          | some (v, H') => execOps C call r (putO t o.dst v) H'
          | none => none) else execOps C call r (putO t o.dst (.tup [])) H
      | .tup _ => execOps C call r (putO t o.dst (.tup [])) H
      | _ => none

def execTree (C : Ctx) (call : CallF) : OTree → Fr → AHeap → Option (Fr × AHeap)
  | .done, t, H => some (t, H)
  | .ops l r, t, H => match execOps C call l t H with
    | some (t', H') => execTree C call r t' H'
    | none => none
  | _, _, _ => none

def iterL (f : Fr → AHeap → Option (Exit × Fr × AHeap)) : Nat → Fr → AHeap → Option (Exit × Fr × AHeap)
  | 0, _, _ => none
  | k + 1, t, H => match f t H with
    | some (.normal, t', H') => iterL f k t' H'
    | r => r

def execFC (C : Ctx) (call : CallF) (k : Nat) : FC → Fr → AHeap → Option (Exit × Fr × AHeap)
  | .skip, t, H => some (.normal, t, H)
  | .ops l, t, H => match execOps C call l t H with
    | some (t', H') => some (.normal, t', H')
    | none => none
  | .draw T, t, H => match execTree C call T t H with
    | some (t', H') => some (.normal, t', H')
    | none => none
  | .seq a b, t, H => match execFC C call k a t H with
    | some (.normal, t', H') => execFC C call k b t' H'
    | r => r
  | .cond c a b, t, H => match evalO t c with
    | .bool true => execFC C call k a t H
    | .bool false => execFC C call k b t H
    | _ => none
  | .block id a, t, H => match execFC C call k a t H with
    | some (.exit j, t', H') => if j = id then some (.normal, t', H') else some (.exit j, t', H')
    | r => r
  | .loop a, t, H => iterL (execFC C call k a) k t H
  | .exit id, t, H => some (.exit id, t, H)
  | .scope a, t, H => match execFC C call k a t H with
    | some (.goto _, _, _) => none
    | r => r
  | .label _, t, H => some (.normal, t, H)
  | .goto l, t, H => some (.goto l, t, H)
  | .ret, t, H => some (.ret, t, H)

abbrev Tbl := List (Nat × FEnt)

def execCall (C : Ctx) (T : Tbl) : Nat → CallF
  | 0, _, _, _ => none
  | k + 1, f, args, H => match T.lookup f with
    | none => none
    | some e => if args.length ≤ e.n then
        match execFC C (execCall C T k) k e.code (frA args) H with
        | some (.normal, t', H') => match resL C t' H' e.res with
          | some vs => if H.length ≤ H'.length then some (tupV vs, H') else none
          | none => none
        | some (.ret, t', H') => match resL C t' H' e.res with
          | some vs => if H.length ≤ H'.length then some (tupV vs, H') else none
          | none => none
        | _ => none
      else none

def CallOK (C : Ctx) (call : CallF) : Prop := ∀ f args H v H', call f args H = some (v, H') → FCalls C f args H fun v' H'' => v' = v ∧ H'' = H'

theorem execOp1_sound {C : Ctx} {call : CallF} (hc : CallOK C call) {o : FOp} {t : Fr} {H : AHeap} {v : AVal} {H' : AHeap} (h : execOp1 C call o t H = some (v, H')) {k : AVal → AHeap → Prop} (hk : k v H') : FWop C o t H k := by
  by_cases ho : o.kl = .call
  · cases o <;> simp only [FOp.kl, reduceCtorEq] at ho
    simp only [execOp1] at h
    simp only [FWop]
    split at h
    · rename_i hfn
      rw [hfn]
      exact (hc _ _ _ _ _ h).mono fun v' H'' ⟨e1, e2⟩ => by rw [e1, e2]; exact hk
    · cases h
  · rw [FWop_nocall ho]
    refine ⟨v, H', ?_, hk⟩
    cases o <;> first | exact h | exact absurd rfl ho

theorem execOps_sound {C : Ctx} {call : CallF} (hc : CallOK C call) : ∀ {l : List FOper} {t : Fr} {H : AHeap} {t' : Fr} {H' : AHeap}, execOps C call l t H = some (t', H') → FWops C l t H fun t'' H'' => t'' = t' ∧ H'' = H'
  | [], t, H, t', H', h => by
    simp only [execOps, Option.some.injEq, Prod.mk.injEq] at h
    exact ⟨h.1, h.2⟩
  | o :: r, t, H, t', H', h => by
    unfold execOps at h
    rw [FWops_cons]
    unfold FStep
    split at h
    · rename_i hg
      rw [hg]
      split at h
      · rename_i v H1 h1
        exact execOp1_sound hc h1 (k := fun v H' => FWops C r (putO t o.dst v) H' _) (execOps_sound hc h)
      · cases h
    · rename_i g b hg
      rw [hg]
      simp only
      split at h
      · rename_i bb hbb
        rw [hbb]
        simp only
        split at h
        · rename_i e
          split at h
          · rename_i v H1 h1
            rw [if_pos e]
            exact execOp1_sound hc h1 (k := fun v H' => FWops C r (putO t o.dst v) H' _) (execOps_sound hc h)
          · cases h
        · rename_i e
          rw [if_neg e]
          exact execOps_sound hc h
      · rename_i l hbb
        rw [hbb]
        exact execOps_sound hc h
      · cases h

theorem execTree_sound {C : Ctx} {call : CallF} (hc : CallOK C call) : ∀ {T : OTree} {t : Fr} {H : AHeap} {t' : Fr} {H' : AHeap}, execTree C call T t H = some (t', H') → FWtree C T t H fun t'' H'' => t'' = t' ∧ H'' = H'
  | .done, t, H, t', H', h => by
    simp only [execTree, Option.some.injEq, Prod.mk.injEq] at h
    exact ⟨h.1, h.2⟩
  | .ops l r, t, H, t', H', h => by
    simp only [execTree] at h
    split at h
    · rename_i t1 H1 h1
      exact (execOps_sound hc h1).mono fun t2 H2 ⟨e1, e2⟩ => by rw [e1, e2]; exact execTree_sound hc h
    · cases h
  | .both _ _, _, _, _, _, h => by simp [execTree] at h
  | .top, _, _, _, _, h => by simp [execTree] at h
  | .stuck, _, _, _, _, h => by simp [execTree] at h

theorem FWtree.mono {C : Ctx} : ∀ {T : OTree} {t : Fr} {H : AHeap} {K K' : Fr → AHeap → Prop}, FWtree C T t H K → (∀ t H, K t H → K' t H) → FWtree C T t H K'
  | .done, _, _, _, _, h, hk => hk _ _ h
  | .ops _ _, _, _, _, _, h, hk => FWops.mono h fun _ _ h => FWtree.mono h hk
  | .both _ _, _, _, _, _, h, hk => ⟨FWtree.mono h.1 hk, FWtree.mono h.2 hk⟩
  | .top, _, _, _, _, _, _ => trivial
  | .stuck, _, _, _, _, h, _ => h.elim

def isQ (e : Exit) (t : Fr) (H : AHeap) : FQ := fun e' t' H' => e' = e ∧ t' = t ∧ H' = H

theorem execFC_sound {X : Fx} {call : CallF} (hc : CallOK X.C call) (k : Nat) : ∀ {fc : FC} {t : Fr} {H : AHeap} {e : Exit} {t' : Fr} {H' : AHeap}, execFC X.C call k fc t H = some (e, t', H') → FW X fc t H (isQ e t' H')
  | .skip, t, H, e, t', H', h => by
    simp only [execFC, Option.some.injEq, Prod.mk.injEq] at h
    obtain ⟨rfl, rfl, rfl⟩ := h
    exact FW.skip ⟨rfl, rfl, rfl⟩
  | .ops l, t, H, e, t', H', h => by
    simp only [execFC] at h
    split at h
    · rename_i h1
      simp only [Option.some.injEq, Prod.mk.injEq] at h
      obtain ⟨rfl, rfl, rfl⟩ := h
      exact FW.ops ((execOps_sound hc h1).mono fun t H ⟨e1, e2⟩ => ⟨rfl, e1, e2⟩)
    · cases h
  | .draw T, t, H, e, t', H', h => by
    simp only [execFC] at h
    split at h
    · rename_i h1
      simp only [Option.some.injEq, Prod.mk.injEq] at h
      obtain ⟨rfl, rfl, rfl⟩ := h
      exact FW.draw ((execTree_sound hc h1).mono fun t H ⟨e1, e2⟩ => ⟨rfl, e1, e2⟩)
    · cases h
  | .seq a b, t, H, e, t', H', h => by
    simp only [execFC] at h
    split at h
    · rename_i t1 H1 h1
      exact FW.seq ((execFC_sound hc k h1).mono fun e t H ⟨e1, e2, e3⟩ => by subst e1; subst e2; subst e3; exact execFC_sound hc k h)
    · rename_i hne
      refine FW.seq ((execFC_sound hc k h).mono fun e1 t1 H1 ⟨e1, e2, e3⟩ => ?_)
      subst e1; subst e2; subst e3
      rename_i e1 _
      cases e1 with
      | normal => exact absurd h (by intro hh; exact hne _ _ hh)
      | _ => exact ⟨rfl, rfl, rfl⟩
  | .cond c a b, t, H, e, t', H', h => by
    simp only [execFC] at h
    split at h
    · rename_i hb; exact FW.cond hb (fun _ => execFC_sound hc k h) (fun e => by cases e)
    · rename_i hb; exact FW.cond hb (fun e => by cases e) (fun _ => execFC_sound hc k h)
    · cases h
  | .block id a, t, H, e, t', H', h => by
    simp only [execFC] at h
    split at h
    · rename_i j t1 H1 h1
      refine FW.block ((execFC_sound hc k h1).mono fun e1 t2 H2 ⟨q1, q2, q3⟩ => ?_)
      subst q1; subst q2; subst q3
      simp only [blockQ]
      split at h
      · rename_i ej
        simp only [Option.some.injEq, Prod.mk.injEq] at h
        obtain ⟨rfl, rfl, rfl⟩ := h
        rw [if_pos ej]; exact ⟨rfl, rfl, rfl⟩
      · rename_i ej
        simp only [Option.some.injEq, Prod.mk.injEq] at h
        obtain ⟨rfl, rfl, rfl⟩ := h
        rw [if_neg ej]; exact ⟨rfl, rfl, rfl⟩
    · rename_i hne
      refine FW.block ((execFC_sound hc k h).mono fun e1 t2 H2 ⟨q1, q2, q3⟩ => ?_)
      subst q1; subst q2; subst q3
      cases e1 with
      | exit j => exact absurd h (by intro hh; exact hne _ _ _ hh)
      | _ => exact ⟨rfl, rfl, rfl⟩
  | .loop a, t, H, e, t', H', h => by
    simp only [execFC] at h
    refine FW.loop (fun t H m => iterL (execFC X.C call k a) m t H = some (e, t', H')) k h ?_
    intro t1 H1 m h1
    cases m with
    | zero => simp [iterL] at h1
    | succ m =>
      simp only [iterL] at h1
      split at h1
      · rename_i t2 H2 h2
        refine (execFC_sound hc k h2).mono fun e1 t3 H3 ⟨q1, q2, q3⟩ => ?_
        subst q1; subst q2; subst q3
        exact ⟨m, by omega, h1⟩
      · rename_i hne
        refine (execFC_sound hc k h1).mono fun e1 t3 H3 ⟨q1, q2, q3⟩ => ?_
        subst q1; subst q2; subst q3
        cases e1 with
        | normal => exact absurd h1 (by intro hh; exact hne _ _ hh)
        | _ => exact ⟨rfl, rfl, rfl⟩
  | .exit id, t, H, e, t', H', h => by
    simp only [execFC, Option.some.injEq, Prod.mk.injEq] at h
    obtain ⟨rfl, rfl, rfl⟩ := h
    exact FW.exit ⟨rfl, rfl, rfl⟩
  | .scope a, t, H, e, t', H', h => by
    simp only [execFC] at h
    split at h
    · cases h
    · rename_i hne
      refine FW.scope ((execFC_sound hc k h).mono fun e1 t2 H2 ⟨q1, q2, q3⟩ => ?_)
      subst q1; subst q2; subst q3
      cases e1 with
      | goto l => exact absurd h (by intro hh; exact hne _ _ _ hh)
      | _ => exact ⟨rfl, rfl, rfl⟩
  | .label l, t, H, e, t', H', h => by
    simp only [execFC, Option.some.injEq, Prod.mk.injEq] at h
    obtain ⟨rfl, rfl, rfl⟩ := h
    exact FW.label ⟨rfl, rfl, rfl⟩
  | .goto l, t, H, e, t', H', h => by
    simp only [execFC, Option.some.injEq, Prod.mk.injEq] at h
    obtain ⟨rfl, rfl, rfl⟩ := h
    exact FW.goto ⟨rfl, rfl, rfl⟩
  | .ret, t, H, e, t', H', h => by
    simp only [execFC, Option.some.injEq, Prod.mk.injEq] at h
    obtain ⟨rfl, rfl, rfl⟩ := h
    exact FW.ret ⟨rfl, rfl, rfl⟩

theorem Weak.all {X : Fx} {t : Fr} {H : AHeap} (h : X.n0 ≤ H.length) : Weak X t H (fun _ => .any) H :=
  ⟨Nat.le_refl _, h, fun _ => .inl rfl, fun _ b hb => ⟨b, hb, rfl, Nat.le_refl _, fun _ _ hx => .inr ⟨hx, fun e => absurd e (Nat.lt_irrefl _)⟩⟩⟩

theorem lookup_mem {T : Tbl} {f : Nat} {e : FEnt} (h : T.lookup f = some e) : (f, e) ∈ T := by
  induction T with
  | nil => simp at h
  | cons p T ih =>
    obtain ⟨g, e'⟩ := p
    rw [List.lookup_cons] at h
    split at h
    · rename_i hg
      simp only [Option.some.injEq] at h
      have : f = g := by simpa using hg
      subst this; subst h
      simp
    · exact List.mem_cons_of_mem _ (ih h)

/-- THE RUN BY NUMBERS. -/
theorem execCall_sound {C : Ctx} {T : Tbl} (hT : ∀ p ∈ T, Valid C.P p.1 p.2) : ∀ k, CallOK C (execCall C T k)
  | 0 => fun f args H v H' h => by simp [execCall] at h
  | k + 1 => fun f args H v H' h => by
    simp only [execCall] at h
    split at h
    · cases h
    · rename_i e he
      split at h
      rotate_left
      · cases h
      rename_i hal
      refine FCalls.entry (hT _ (lookup_mem he)) hal fun _ _ => ?_
      have ih := execCall_sound hT k
      split at h
      · rename_i t' H1 h1
        split at h
        · rename_i vs hvs
          split at h
          · rename_i hle
            simp only [Option.some.injEq, Prod.mk.injEq] at h
            obtain ⟨rfl, rfl⟩ := h
            refine (execFC_sound (X := ⟨C, e.n, H.length⟩) ih k h1).mono fun e1 t2 H2 ⟨q1, q2, q3⟩ => ?_
            subst q1; subst q2; subst q3
            exact ⟨vs, H2, hvs, Weak.all hle, fun e => absurd e (Nat.lt_irrefl _), rfl, rfl⟩
          · cases h
        · cases h
      · rename_i t' H1 h1
        split at h
        · rename_i vs hvs
          split at h
          · rename_i hle
            simp only [Option.some.injEq, Prod.mk.injEq] at h
            obtain ⟨rfl, rfl⟩ := h
            refine (execFC_sound (X := ⟨C, e.n, H.length⟩) ih k h1).mono fun e1 t2 H2 ⟨q1, q2, q3⟩ => ?_
            subst q1; subst q2; subst q3
            exact ⟨vs, H2, hvs, Weak.all hle, fun e => absurd e (Nat.lt_irrefl _), rfl, rfl⟩
          · cases h
        · cases h
      · cases h

end Go.F
