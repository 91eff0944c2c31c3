/- A run by numbers: where all is known, the kernel runs the code. -/
import Derived.Test.YtlghjfmehfochaaDoorFJ
import Derived.ScopeJumps
set_option linter.all false
namespace Go.F
open Go.RowKit

theorem FW.scope {X : Fx} {x : FC} {t : Fr} {H : AHeap} {Q : FQ} (h : FW X x t H (fun e t H => match e with | .goto _ => False | e => Q e t H)) : FW X (.scope x) t H Q := by
  intro c hc σ0 hl a w σ hs
  cases c <;> simp only [comp, reduceCtorEq, Option.some.injEq, Option.map_eq_some_iff, and_false, exists_false] at hc
  case scope p =>
    obtain ⟨fx, hx, e⟩ := hc
    simp only [FC.scope.injEq] at e
    subst e
    refine wp_scope_straight (wp_mono (h p hx σ0 hl a w σ hs) ?_)
    rintro e a' w' ⟨t', H', σ', q, s⟩
    cases e with
    | goto j => exact q.elim
    | _ => exact ⟨t', H', σ', q, s⟩
  all_goals (repeat' split at hc) <;> simp at hc

def findFC : FC → Nat → Option FC
  | .seq a b, l =>
    match findFC a l with
    | some rest => some (.seq rest b)
    | none => findFC b l
  | .label l', l => if l' == l then some .skip else none
  | _, _ => none

theorem findFC_comp {P : Program} {n : Nat} {l : Nat} : ∀ {c : Code} {fc : FC}, comp P n c = some fc → (findLabel c l = none ∧ findFC fc l = none) ∨ (∃ rest frest, findLabel c l = some rest ∧ findFC fc l = some frest ∧ comp P n rest = some frest) := by
  intro c
  induction c with
  | seq a b iha ihb =>
    intro fc h
    simp only [comp] at h
    split at h
    · rename_i x y hx hy
      simp only [Option.some.injEq] at h; subst h
      rcases iha hx with ⟨h1, h2⟩ | ⟨r, fr, h1, h2, h3⟩
      · simp only [findLabel, findFC, h1, h2]
        exact ihb hy
      · simp only [findLabel, findFC, h1, h2]
        exact .inr ⟨_, _, rfl, rfl, by simp only [comp, h3, hy]⟩
    · cases h
  | label l' =>
    intro fc h
    simp only [comp, Option.some.injEq] at h; subst h
    simp only [findLabel, findFC]
    by_cases e : (l' == l) = true
    · rw [if_pos e, if_pos e]; exact .inr ⟨_, _, rfl, rfl, rfl⟩
    · rw [if_neg e, if_neg e]; exact .inl ⟨rfl, rfl⟩
  | _ =>
    intro fc h
    first
      | (simp only [comp, Option.some.injEq] at h; subst h; exact .inl ⟨rfl, rfl⟩)
      | (simp only [comp, Option.map_eq_some_iff] at h; obtain ⟨_, _, rfl⟩ := h; exact .inl ⟨rfl, rfl⟩)
      | (simp only [comp] at h
         repeat' split at h
         all_goals first
           | (cases h; done)
           | (simp only [Option.some.injEq] at h; subst h; exact .inl ⟨rfl, rfl⟩))

def noGotoQ (Q : FQ) : FQ := fun e t H => match e with | .goto _ => False | e => Q e t H

/-- A SCOPE with a jump to one label behind. -/
theorem FW.scopeJ {X : Fx} {x rest : FC} {t : Fr} {H : AHeap} {Q : FQ} (l : Nat) (hf : findFC x l = some rest)
    (h : FW X x t H (fun e t H => match e with | .goto l' => l' = l ∧ FW X rest t H (noGotoQ Q) | e => Q e t H)) : FW X (.scope x) t H Q := by
  intro c hc σ0 hl a w σ hs
  cases c <;> simp only [comp, reduceCtorEq, Option.some.injEq, Option.map_eq_some_iff, and_false, exists_false] at hc
  case scope p =>
    obtain ⟨fx, hx, e⟩ := hc
    simp only [FC.scope.injEq] at e
    subst e
    rcases findFC_comp (l := l) hx with ⟨_, h2⟩ | ⟨r, fr, h1, h2, h3⟩
    · rw [hf] at h2; cases h2
    rw [hf] at h2
    cases h2
    refine wp_scope_jumps l (fun a w => ∃ t H σ, FW X rest t H (noGotoQ Q) ∧ St X.C σ0 X.n t H a w σ) (fun _ _ => 0) h1 (wp_mono (h p hx σ0 hl a w σ hs) ?_) ?_
    · rintro e a' w' ⟨t', H', σ', q, s⟩
      cases e with
      | goto j => exact ⟨q.1, t', H', σ', q.2, s⟩
      | _ => exact ⟨t', H', σ', q, s⟩
    · rintro a1 w1 ⟨t1, H1, σ1, hfw, s1⟩
      refine wp_mono (hfw r h3 σ0 hl a1 w1 σ1 s1) ?_
      rintro e a' w' ⟨t', H', σ', q, s⟩
      cases e with
      | goto j => exact q.elim
      | _ => exact ⟨t', H', σ', q, s⟩
  all_goals (repeat' split at hc) <;> simp at hc

structure FEnt where
  n : Nat
  code : FC
  res : List FRes

/-- an entry is the function's own code -/
def Valid (P : Program) (f : Nat) (e : FEnt) : Prop :=
  ∃ fn c, P.funcs[f]? = some fn ∧ fn.body = some c ∧ (fn.name == "runtime.NumGoroutine") = false ∧ fn.ntmps = e.n ∧ comp P e.n c = some e.code ∧ compRes P e.n fn.results.toList = some e.res

theorem FCalls.entry {C : Ctx} {f : Nat} {e : FEnt} (hv : Valid C.P f e) {args : List AVal} {H : AHeap} {Post : AVal → AHeap → Prop} (hargs : args.length ≤ e.n)
    (h : (∀ i b, hget H i = some b → ltL H.length b.cells) → ltL H.length args → FW ⟨C, e.n, H.length⟩ e.code (frA args) H (retQ ⟨C, e.n, H.length⟩ e.res Post)) : FCalls C f args H Post := by
  obtain ⟨fn, c, h1, h2, h3, h4, h5, h6⟩ := hv
  rw [← h4] at h5 h6 hargs h
  exact FCalls.body h1 h2 h3 h5 h6 hargs h

abbrev CallF := Nat → List AVal → AHeap → Option (AVal × AHeap)

def execOp1 (C : Ctx) (call : CallF) (o : FOp) (t : Fr) (H : AHeap) : Option (AVal × AHeap) :=
  match o with
  | .call f args => match evalO t f with
    | .fn fi caps => call fi (args.map (evalO t) ++ caps) H
    | .mth fi first => call fi (first ++ args.map (evalO t)) H
    | _ => none
  | o => stepOp C t H o

def execOps (C : Ctx) (call : CallF) : List FOper → Fr → AHeap → Option (Fr × AHeap)
  | [], t, H => some (t, H)
  | o :: r, t, H => match o.guard with
    | none => match execOp1 C call o.op t H with
      | some (v, H') => execOps C call r (putO t o.dst v) H'
      | none => none
    | some (g, b) => match t g with
      | .bool bb => if bb = b then (match execOp1 C call o.op t H with
          | some (v, H') => execOps C call r (putO t o.dst v) H'
          | none => none) else execOps C call r (putO t o.dst (.tup [])) H
      | .tup _ => execOps C call r (putO t o.dst (.tup [])) H
      | _ => none

def execTree (C : Ctx) (call : CallF) : OTree → Fr → AHeap → Option (Fr × AHeap)
  | .done, t, H => some (t, H)
  | .ops l r, t, H => match execOps C call l t H with
    | some (t', H') => execTree C call r t' H'
    | none => none
  | _, _, _ => none

def seenB (anc : List Nat) (seen : Seen) (all mods : List Nat) : Bool := seen.all fun e => anc.contains e.1 || (e.2.2.all (fun x => !all.contains x) && mods.all fun x => !e.2.1.contains x)

theorem seenB_ok {anc : List Nat} {seen : Seen} {all mods : List Nat} (h : seenB anc seen all mods = true) : SeenOK anc seen all mods := by
  intro e he
  have := List.all_eq_true.1 h e he
  simp only [Bool.or_eq_true, Bool.and_eq_true, List.all_eq_true, Bool.not_eq_true', List.contains_iff_mem] at this
  rcases this with h1 | ⟨h1, h2⟩
  · exact .inl h1
  · exact .inr ⟨fun x hx hin => by have := h1 x hx; simp [hin] at this, fun x hx hin => by have := h2 x hx; simp [hin] at this⟩

def execTreeR (C : Ctx) (call : CallF) (h : Nat) : RTree → Seen → Fr → AHeap → Option (Fr × AHeap)
  | .done, _, t, H => some (t, H)
  | .op j anc o r, seen, t, H => match runs o t with
    | some false => execTreeR C call h r seen (putO t o.dst (.tup [])) H
    | some true => if regOp o.op then
        match stepAt C (h + j) t H o.op with
        | some (v, H') => if ((opMods (h + j) t o.op).isEmpty || decide (h + j < H.length)) && seenB anc seen (opAll (h + j) t o.op) (opMods (h + j) t o.op) then
            execTreeR C call h r ((j, opAll (h + j) t o.op, opMods (h + j) t o.op) :: seen) (putO t o.dst v) H' else none
        | none => none
      else if seen.all (fun e => anc.contains e.1 || e.2.1.isEmpty) then match execOp1 C call o.op t H with
        | some (v, H') => execTreeR C call h r seen (putO t o.dst v) H'
        | none => none
      else none
    | none => none
  | _, _, _, _ => none

def iterL (f : Fr → AHeap → Option (Exit × Fr × AHeap)) : Nat → Fr → AHeap → Option (Exit × Fr × AHeap)
  | 0, _, _ => none
  | k + 1, t, H => match f t H with
    | some (.normal, t', H') => iterL f k t' H'
    | r => r

abbrev SubF := FC → Fr → AHeap → Option (Exit × Fr × AHeap)

def execFC (C : Ctx) (call : CallF) (k : Nat) (sub : SubF) : FC → Fr → AHeap → Option (Exit × Fr × AHeap)
  | .skip, t, H => some (.normal, t, H)
  | .ops l, t, H => match execOps C call l t H with
    | some (t', H') => some (.normal, t', H')
    | none => none
  | .draw T, t, H => match execTree C call T t H with
    | some (t', H') => some (.normal, t', H')
    | none => none
  | .drawR n T, t, H => match execTreeR C call H.length T [] t (H ++ List.replicate n none) with
    | some (t', H') => some (.normal, t', H')
    | none => none
  | .seq a b, t, H => match execFC C call k sub a t H with
    | some (.normal, t', H') => execFC C call k sub b t' H'
    | r => r
  | .cond c a b, t, H => match evalO t c with
    | .bool true => execFC C call k sub a t H
    | .bool false => execFC C call k sub b t H
    | _ => none
  | .block id a, t, H => match execFC C call k sub a t H with
    | some (.exit j, t', H') => if j = id then some (.normal, t', H') else some (.exit j, t', H')
    | r => r
  | .loop a, t, H => iterL (execFC C call k sub a) k t H
  | .exit id, t, H => some (.exit id, t, H)
  | .scope a, t, H => match execFC C call k sub a t H with
    | some (.goto l, t', H') => match findFC a l with
      | some rest => match sub rest t' H' with
        | some (.goto _, _, _) => none
        | r => r
      | none => none
    | r => r
  | .label _, t, H => some (.normal, t, H)
  | .goto l, t, H => some (.goto l, t, H)
  | .ret, t, H => some (.ret, t, H)

abbrev Tbl := List (Nat × FEnt)

def execCall (C : Ctx) (T : Tbl) : Nat → CallF
  | 0, _, _, _ => none
  | k + 1, f, args, H => match T.lookup f with
    | none => none
    | some e => if args.length ≤ e.n then
        match execFC C (execCall C T k) k (execFC C (execCall C T k) k fun _ _ _ => none) e.code (frA args) H with
        | some (.normal, t', H') => match resL C t' H' e.res with
          | some vs => if H.length ≤ H'.length then some (tupV vs, H') else none
          | none => none
        | some (.ret, t', H') => match resL C t' H' e.res with
          | some vs => if H.length ≤ H'.length then some (tupV vs, H') else none
          | none => none
        | _ => none
      else none

def CallOK (C : Ctx) (call : CallF) : Prop := ∀ f args H v H', call f args H = some (v, H') → FCalls C f args H fun v' H'' => v' = v ∧ H'' = H'

theorem execOp1_sound {C : Ctx} {call : CallF} (hc : CallOK C call) {o : FOp} {t : Fr} {H : AHeap} {v : AVal} {H' : AHeap} (h : execOp1 C call o t H = some (v, H')) {k : AVal → AHeap → Prop} (hk : k v H') : FWop C o t H k := by
  by_cases ho : o.kl = .call
  · cases o <;> simp only [FOp.kl, reduceCtorEq] at ho
    simp only [execOp1] at h
    simp only [FWop]
    split at h
    · rename_i hfn
      rw [hfn]
      exact (hc _ _ _ _ _ h).mono fun v' H'' ⟨e1, e2⟩ => by rw [e1, e2]; exact hk
    · rename_i hfn
      rw [hfn]
      exact (hc _ _ _ _ _ h).mono fun v' H'' ⟨e1, e2⟩ => by rw [e1, e2]; exact hk
    · cases h
  · rw [FWop_nocall ho]
    refine ⟨v, H', ?_, hk⟩
    cases o <;> first | exact h | exact absurd rfl ho

theorem execOps_sound {C : Ctx} {call : CallF} (hc : CallOK C call) : ∀ {l : List FOper} {t : Fr} {H : AHeap} {t' : Fr} {H' : AHeap}, execOps C call l t H = some (t', H') → FWops C l t H fun t'' H'' => t'' = t' ∧ H'' = H'
  | [], t, H, t', H', h => by
    simp only [execOps, Option.some.injEq, Prod.mk.injEq] at h
    exact ⟨h.1, h.2⟩
  | o :: r, t, H, t', H', h => by
    unfold execOps at h
    rw [FWops_cons]
    unfold FStep
    split at h
    · rename_i hg
      rw [hg]
      split at h
      · rename_i v H1 h1
        exact execOp1_sound hc h1 (k := fun v H' => FWops C r (putO t o.dst v) H' _) (execOps_sound hc h)
      · cases h
    · rename_i g b hg
      rw [hg]
      simp only
      split at h
      · rename_i bb hbb
        rw [hbb]
        simp only
        split at h
        · rename_i e
          split at h
          · rename_i v H1 h1
            rw [if_pos e]
            exact execOp1_sound hc h1 (k := fun v H' => FWops C r (putO t o.dst v) H' _) (execOps_sound hc h)
          · cases h
        · rename_i e
          rw [if_neg e]
          exact execOps_sound hc h
      · rename_i l hbb
        rw [hbb]
        exact execOps_sound hc h
      · cases h

theorem execTree_sound {C : Ctx} {call : CallF} (hc : CallOK C call) : ∀ {T : OTree} {t : Fr} {H : AHeap} {t' : Fr} {H' : AHeap}, execTree C call T t H = some (t', H') → FWtree C T t H fun t'' H'' => t'' = t' ∧ H'' = H'
  | .done, t, H, t', H', h => by
    simp only [execTree, Option.some.injEq, Prod.mk.injEq] at h
    exact ⟨h.1, h.2⟩
  | .ops l r, t, H, t', H', h => by
    simp only [execTree] at h
    split at h
    · rename_i t1 H1 h1
      exact (execOps_sound hc h1).mono fun t2 H2 ⟨e1, e2⟩ => by rw [e1, e2]; exact execTree_sound hc h
    · cases h
  | .both _ _, _, _, _, _, h => by simp [execTree] at h
  | .top, _, _, _, _, h => by simp [execTree] at h
  | .stuck, _, _, _, _, h => by simp [execTree] at h

theorem execTreeR_sound {C : Ctx} {call : CallF} (hc : CallOK C call) {h : Nat} {t' : Fr} {H' : AHeap} : ∀ {T : RTree} {seen : Seen} {t : Fr} {H : AHeap}, execTreeR C call h T seen t H = some (t', H') → FWtreeR C h T seen t H fun t'' H'' => t'' = t' ∧ H'' = H'
  | .done, seen, t, H, he => by
    simp only [execTreeR, Option.some.injEq, Prod.mk.injEq] at he
    exact ⟨he.1, he.2⟩
  | .op j anc o r, seen, t, H, he => by
    simp only [execTreeR] at he
    split at he
    · rename_i hr
      exact .inl ⟨hr, execTreeR_sound hc he⟩
    · rename_i hr
      split at he
      · rename_i hreg
        split at he
        · rename_i v H1 hs
          split at he
          · rename_i hchk
            simp only [Bool.and_eq_true, Bool.or_eq_true, List.isEmpty_iff, decide_eq_true_eq] at hchk
            exact .inr ⟨hr, .inl ⟨hreg, v, H1, hs, fun hne => hchk.1.resolve_left hne, seenB_ok hchk.2, execTreeR_sound hc he⟩⟩
          · cases he
        · cases he
      · rename_i hreg
        split at he
        · rename_i hall
          split at he
          · rename_i v H1 hs
            refine .inr ⟨hr, .inr ⟨by simpa using hreg, execOp1_sound hc hs ⟨fun e hin => ?_, execTreeR_sound hc he⟩⟩⟩
            have := List.all_eq_true.1 hall e hin
            simp only [Bool.or_eq_true, List.contains_iff_mem, List.isEmpty_iff] at this
            rcases this with q | q
            · exact .inl q
            · exact .inr (by rw [q]; simp)
          · cases he
        · cases he
    · cases he
  | .both _ _, _, _, _, he => by simp [execTreeR] at he
  | .top, _, _, _, he => by simp [execTreeR] at he
  | .stuck, _, _, _, he => by simp [execTreeR] at he

theorem FWtreeR.mono {C : Ctx} {h : Nat} {K K' : Fr → AHeap → Prop} (hk : ∀ t H, K t H → K' t H) : ∀ {T : RTree} {seen : Seen} {t : Fr} {H : AHeap}, FWtreeR C h T seen t H K → FWtreeR C h T seen t H K'
  | .done, _, _, _, hf => hk _ _ hf
  | .op _ _ _ r, seen, t, H, hf => by
    rcases hf with ⟨h1, h2⟩ | ⟨h1, ⟨h2, v, H', h3, h4, h5, h6⟩ | ⟨h2, h3⟩⟩
    · exact .inl ⟨h1, FWtreeR.mono hk h2⟩
    · exact .inr ⟨h1, .inl ⟨h2, v, H', h3, h4, h5, FWtreeR.mono hk h6⟩⟩
    · exact .inr ⟨h1, .inr ⟨h2, h3.mono fun v H' hh => ⟨hh.1, FWtreeR.mono hk hh.2⟩⟩⟩
  | .both _ _, _, _, _, hf => ⟨FWtreeR.mono hk hf.1, FWtreeR.mono hk hf.2⟩
  | .top, _, _, _, _ => trivial
  | .stuck, _, _, _, hf => hf.elim

theorem FWtree.mono {C : Ctx} : ∀ {T : OTree} {t : Fr} {H : AHeap} {K K' : Fr → AHeap → Prop}, FWtree C T t H K → (∀ t H, K t H → K' t H) → FWtree C T t H K'
  | .done, _, _, _, _, h, hk => hk _ _ h
  | .ops _ _, _, _, _, _, h, hk => FWops.mono h fun _ _ h => FWtree.mono h hk
  | .both _ _, _, _, _, _, h, hk => ⟨FWtree.mono h.1 hk, FWtree.mono h.2 hk⟩
  | .top, _, _, _, _, _, _ => trivial
  | .stuck, _, _, _, _, h, _ => h.elim

def isQ (e : Exit) (t : Fr) (H : AHeap) : FQ := fun e' t' H' => e' = e ∧ t' = t ∧ H' = H

theorem execFC_sound {X : Fx} {call : CallF} (hc : CallOK X.C call) (k : Nat) {sub : SubF} (hsub : ∀ {fc : FC} {t : Fr} {H : AHeap} {e : Exit} {t' : Fr} {H' : AHeap}, sub fc t H = some (e, t', H') → FW X fc t H (isQ e t' H')) : ∀ {fc : FC} {t : Fr} {H : AHeap} {e : Exit} {t' : Fr} {H' : AHeap}, execFC X.C call k sub fc t H = some (e, t', H') → FW X fc t H (isQ e t' H')
  | .skip, t, H, e, t', H', h => by
    simp only [execFC, Option.some.injEq, Prod.mk.injEq] at h
    obtain ⟨rfl, rfl, rfl⟩ := h
    exact FW.skip ⟨rfl, rfl, rfl⟩
  | .ops l, t, H, e, t', H', h => by
    simp only [execFC] at h
    split at h
    · rename_i h1
      simp only [Option.some.injEq, Prod.mk.injEq] at h
      obtain ⟨rfl, rfl, rfl⟩ := h
      exact FW.ops ((execOps_sound hc h1).mono fun t H ⟨e1, e2⟩ => ⟨rfl, e1, e2⟩)
    · cases h
  | .draw T, t, H, e, t', H', h => by
    simp only [execFC] at h
    split at h
    · rename_i h1
      simp only [Option.some.injEq, Prod.mk.injEq] at h
      obtain ⟨rfl, rfl, rfl⟩ := h
      exact FW.draw ((execTree_sound hc h1).mono fun t H ⟨e1, e2⟩ => ⟨rfl, e1, e2⟩)
    · cases h
  | .drawR n T, t, H, e, t', H', h => by
    simp only [execFC] at h
    split at h
    · rename_i h1
      simp only [Option.some.injEq, Prod.mk.injEq] at h
      obtain ⟨rfl, rfl, rfl⟩ := h
      exact FW.drawR (FWtreeR.mono (fun t H ⟨e1, e2⟩ => ⟨rfl, e1, e2⟩) (execTreeR_sound hc h1))
    · cases h
  | .seq a b, t, H, e, t', H', h => by
    simp only [execFC] at h
    split at h
    · rename_i t1 H1 h1
      exact FW.seq ((execFC_sound hc k hsub h1).mono fun e t H ⟨e1, e2, e3⟩ => by subst e1; subst e2; subst e3; exact execFC_sound hc k hsub h)
    · rename_i hne
      refine FW.seq ((execFC_sound hc k hsub h).mono fun e1 t1 H1 ⟨e1, e2, e3⟩ => ?_)
      subst e1; subst e2; subst e3
      rename_i e1 _
      cases e1 with
      | normal => exact absurd h (by intro hh; exact hne _ _ hh)
      | _ => exact ⟨rfl, rfl, rfl⟩
  | .cond c a b, t, H, e, t', H', h => by
    simp only [execFC] at h
    split at h
    · rename_i hb; exact FW.cond hb (fun _ => execFC_sound hc k hsub h) (fun e => by cases e)
    · rename_i hb; exact FW.cond hb (fun e => by cases e) (fun _ => execFC_sound hc k hsub h)
    · cases h
  | .block id a, t, H, e, t', H', h => by
    simp only [execFC] at h
    split at h
    · rename_i j t1 H1 h1
      refine FW.block ((execFC_sound hc k hsub h1).mono fun e1 t2 H2 ⟨q1, q2, q3⟩ => ?_)
      subst q1; subst q2; subst q3
      simp only [blockQ]
      split at h
      · rename_i ej
        simp only [Option.some.injEq, Prod.mk.injEq] at h
        obtain ⟨rfl, rfl, rfl⟩ := h
        rw [if_pos ej]; exact ⟨rfl, rfl, rfl⟩
      · rename_i ej
        simp only [Option.some.injEq, Prod.mk.injEq] at h
        obtain ⟨rfl, rfl, rfl⟩ := h
        rw [if_neg ej]; exact ⟨rfl, rfl, rfl⟩
    · rename_i hne
      refine FW.block ((execFC_sound hc k hsub h).mono fun e1 t2 H2 ⟨q1, q2, q3⟩ => ?_)
      subst q1; subst q2; subst q3
      cases e1 with
      | exit j => exact absurd h (by intro hh; exact hne _ _ _ hh)
      | _ => exact ⟨rfl, rfl, rfl⟩
  | .loop a, t, H, e, t', H', h => by
    simp only [execFC] at h
    refine FW.loop (fun t H m => iterL (execFC X.C call k sub a) m t H = some (e, t', H')) k h ?_
    intro t1 H1 m h1
    cases m with
    | zero => simp [iterL] at h1
    | succ m =>
      simp only [iterL] at h1
      split at h1
      · rename_i t2 H2 h2
        refine (execFC_sound hc k hsub h2).mono fun e1 t3 H3 ⟨q1, q2, q3⟩ => ?_
        subst q1; subst q2; subst q3
        exact ⟨m, by omega, h1⟩
      · rename_i hne
        refine (execFC_sound hc k hsub h1).mono fun e1 t3 H3 ⟨q1, q2, q3⟩ => ?_
        subst q1; subst q2; subst q3
        cases e1 with
        | normal => exact absurd h1 (by intro hh; exact hne _ _ hh)
        | _ => exact ⟨rfl, rfl, rfl⟩
  | .exit id, t, H, e, t', H', h => by
    simp only [execFC, Option.some.injEq, Prod.mk.injEq] at h
    obtain ⟨rfl, rfl, rfl⟩ := h
    exact FW.exit ⟨rfl, rfl, rfl⟩
  | .scope a, t, H, e, t', H', h => by
    simp only [execFC] at h
    split at h
    · rename_i l t1 H1 h1
      split at h
      · rename_i rest hf
        refine FW.scopeJ l hf ((execFC_sound hc k hsub h1).mono fun e1 t2 H2 ⟨q1, q2, q3⟩ => ?_)
        subst q1; subst q2; subst q3
        refine ⟨rfl, ?_⟩
        split at h
        · cases h
        · rename_i hne
          refine (hsub h).mono fun e1 t3 H3 ⟨q1, q2, q3⟩ => ?_
          subst q1; subst q2; subst q3
          cases e1 with
          | goto l => exact absurd h (by intro hh; exact hne _ _ _ hh)
          | _ => exact ⟨rfl, rfl, rfl⟩
      · cases h
    · rename_i hne
      refine FW.scope ((execFC_sound hc k hsub h).mono fun e1 t2 H2 ⟨q1, q2, q3⟩ => ?_)
      subst q1; subst q2; subst q3
      cases e1 with
      | goto l => exact absurd h (by intro hh; exact hne _ _ _ hh)
      | _ => exact ⟨rfl, rfl, rfl⟩
  | .label l, t, H, e, t', H', h => by
    simp only [execFC, Option.some.injEq, Prod.mk.injEq] at h
    obtain ⟨rfl, rfl, rfl⟩ := h
    exact FW.label ⟨rfl, rfl, rfl⟩
  | .goto l, t, H, e, t', H', h => by
    simp only [execFC, Option.some.injEq, Prod.mk.injEq] at h
    obtain ⟨rfl, rfl, rfl⟩ := h
    exact FW.goto ⟨rfl, rfl, rfl⟩
  | .ret, t, H, e, t', H', h => by
    simp only [execFC, Option.some.injEq, Prod.mk.injEq] at h
    obtain ⟨rfl, rfl, rfl⟩ := h
    exact FW.ret ⟨rfl, rfl, rfl⟩

theorem Weak.all {X : Fx} {t : Fr} {H : AHeap} (h : X.n0 ≤ H.length) : Weak X t H (fun _ => .any) H :=
  ⟨Nat.le_refl _, h, fun _ => .inl rfl, fun _ b hb => ⟨b, hb, rfl, Nat.le_refl _, fun _ _ hx => .inr ⟨hx, fun e => absurd e (Nat.lt_irrefl _)⟩⟩⟩

theorem lookup_mem {T : Tbl} {f : Nat} {e : FEnt} (h : T.lookup f = some e) : (f, e) ∈ T := by
  induction T with
  | nil => simp at h
  | cons p T ih =>
    obtain ⟨g, e'⟩ := p
    rw [List.lookup_cons] at h
    split at h
    · rename_i hg
      simp only [Option.some.injEq] at h
      have : f = g := by simpa using hg
      subst this; subst h
      simp
    · exact List.mem_cons_of_mem _ (ih h)

/-- THE RUN BY NUMBERS. -/
theorem execCall_sound {C : Ctx} {T : Tbl} (hT : ∀ p ∈ T, Valid C.P p.1 p.2) : ∀ k, CallOK C (execCall C T k)
  | 0 => fun f args H v H' h => by simp [execCall] at h
  | k + 1 => fun f args H v H' h => by
    simp only [execCall] at h
    split at h
    · cases h
    · rename_i e he
      split at h
      rotate_left
      · cases h
      rename_i hal
      refine FCalls.entry (hT _ (lookup_mem he)) hal fun _ _ => ?_
      have ih := execCall_sound hT k
      split at h
      · rename_i t' H1 h1
        split at h
        · rename_i vs hvs
          split at h
          · rename_i hle
            simp only [Option.some.injEq, Prod.mk.injEq] at h
            obtain ⟨rfl, rfl⟩ := h
            refine (execFC_sound (X := ⟨C, e.n, H.length⟩) ih k (execFC_sound (X := ⟨C, e.n, H.length⟩) ih k (fun h => by cases h)) h1).mono fun e1 t2 H2 ⟨q1, q2, q3⟩ => ?_
            subst q1; subst q2; subst q3
            exact ⟨vs, H2, hvs, Weak.all hle, fun e => absurd e (Nat.lt_irrefl _), rfl, rfl⟩
          · cases h
        · cases h
      · rename_i t' H1 h1
        split at h
        · rename_i vs hvs
          split at h
          · rename_i hle
            simp only [Option.some.injEq, Prod.mk.injEq] at h
            obtain ⟨rfl, rfl⟩ := h
            refine (execFC_sound (X := ⟨C, e.n, H.length⟩) ih k (execFC_sound (X := ⟨C, e.n, H.length⟩) ih k (fun h => by cases h)) h1).mono fun e1 t2 H2 ⟨q1, q2, q3⟩ => ?_
            subst q1; subst q2; subst q3
            exact ⟨vs, H2, hvs, Weak.all hle, fun e => absurd e (Nat.lt_irrefl _), rfl, rfl⟩
          · cases h
        · cases h
      · cases h

end Go.F
