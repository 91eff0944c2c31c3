/- Calls and lists of operations. -/
import Derived.Test.YtlghjfmehfochaaDoorFE7
set_option linter.all false
namespace Go.F
open Go.RowKit

inductive All2 {α β : Type} (R : α → β → Prop) : List α → List β → Prop
  | nil : All2 R [] []
  | cons {a : α} {b : β} {l : List α} {r : List β} : R a b → All2 R l r → All2 R (a :: l) (b :: r)

theorem compOp_call {P : Program} {op : Op} {f : FOpd} {args : List FOpd} (h : compOp P op = some (.call f args)) : ∃ c x, op = .call c ∧ c.callee = .value x ∧ f = cO x ∧ args = c.args.toList.map cO := by
  cases op
  case call c =>
    simp only [compOp] at h
    split at h
    · rename_i x hx
      simp only [Option.some.injEq, FOp.call.injEq] at h
      exact ⟨c, x, rfl, hx, h.1.symm, h.2.symm⟩
    all_goals (repeat' split at h) <;> simp at h
  case makeFunc fn _ _ => cases fn <;> simp only [compOp, reduceCtorEq] at h <;> (repeat' split at h) <;> simp at h
  all_goals (simp only [compOp] at h)
  all_goals (repeat' split at h)
  all_goals (simp at h)

/-- A function that has a body of its own. -/
def Callable (P : Program) (f : Nat) : Prop := ∃ fn, P.funcs[f]? = some fn ∧ (fn.name == "runtime.NumGoroutine") = false ∧ fn.body.isNone = false

/-- A CALL: in every real memory that fits, it returns; what it gives and leaves fits Post. -/
def FCalls (C : Ctx) (f : Nat) (args : List AVal) (H : AHeap) (Post : AVal → AHeap → Prop) : Prop :=
  Callable C.P f ∧ ∀ (σ : Sg) (w : World) (cargs : Array Value), Rep C σ H w → relL σ args cargs.toList →
    Calls C.P f cargs w (fun e w' => ∃ v av H' σ', e = .returned v ∧ Post av H' ∧ σ <+: σ' ∧ relV σ' av v ∧ Rep C σ' H' w')

theorem FCalls.mono {C : Ctx} {f : Nat} {args : List AVal} {H : AHeap} {Post Post' : AVal → AHeap → Prop} (h : FCalls C f args H Post) (hp : ∀ v H', Post v H' → Post' v H') : FCalls C f args H Post' :=
  ⟨h.1, fun σ w cargs hr ha => (h.2 σ w cargs hr ha).mono fun _ _ ⟨v, av, H', σ', e, p, r⟩ => ⟨v, av, H', σ', e, hp _ _ p, r⟩⟩

def FWop (C : Ctx) (o : FOp) (t : Fr) (H : AHeap) (k : AVal → AHeap → Prop) : Prop :=
  match o with
  | .call f args => match evalO t f with
    | .fn fi caps => FCalls C fi (args.map (evalO t) ++ caps) H k
    | .mth fi first => FCalls C fi (first ++ args.map (evalO t)) H k
    | _ => False
  | o => match stepOp C t H o with
    | some (v, H') => k v H'
    | none => False

def FWops (C : Ctx) : List FOper → Fr → AHeap → (Fr → AHeap → Prop) → Prop
  | [], t, H, K => K t H
  | o :: r, t, H, K => match o.guard with
    | none => FWop C o.op t H fun v H' => FWops C r (putO t o.dst v) H' K
    | some (g, b) => match t g with
      | .bool bb => if bb = b then FWop C o.op t H (fun v H' => FWops C r (putO t o.dst v) H' K) else FWops C r (putO t o.dst (.tup [])) H K
      | .tup _ => FWops C r (putO t o.dst (.tup [])) H K
      | _ => False

theorem FWop.mono {C : Ctx} {o : FOp} {t : Fr} {H : AHeap} {k k' : AVal → AHeap → Prop} (h : FWop C o t H k) (hk : ∀ v H', k v H' → k' v H') : FWop C o t H k' := by
  unfold FWop at h ⊢
  split at h
  · split at h
    · exact h.mono hk
    · exact h.mono hk
    · exact h.elim
  · split at h
    · exact hk _ _ h
    · exact h.elim

theorem FWops.mono {C : Ctx} : ∀ {l : List FOper} {t : Fr} {H : AHeap} {K K' : Fr → AHeap → Prop}, FWops C l t H K → (∀ t H, K t H → K' t H) → FWops C l t H K'
  | [], _, _, _, _, h, hk => hk _ _ h
  | o :: r, t, H, K, K', h, hk => by
    unfold FWops at h ⊢
    split at h
    · exact h.mono fun v H' h => FWops.mono h hk
    · split at h
      · split at h
        · rename_i e; rw [if_pos e]; exact h.mono fun v H' h => FWops.mono h hk
        · rename_i e; rw [if_neg e]; exact FWops.mono h hk
      · exact FWops.mono h hk
      · exact h.elim

/-- What fits: an abstract frame and heap, and a real frame and memory. σ0: what the numbers of the caller stand for. -/
structure St (C : Ctx) (σ0 : Sg) (n : Nat) (t : Fr) (H : AHeap) (a : Act) (w : World) (σ : Sg) : Prop where
  pre : σ0 <+: σ
  rep : Rep C σ H w
  fr : relF σ n t a.tmps
  defers : a.defers = []

theorem St.put {C : Ctx} {σ0 : Sg} {n : Nat} {t : Fr} {H H' : AHeap} {a : Act} {w w' : World} {σ σ' : Sg} (h : St C σ0 n t H a w σ) (hp : σ <+: σ') (hr : Rep C σ' H' w') {d : Option Nat} (hd : d.all (fun d => d < n) = true) {v : AVal} {cv : Value} (hv : relV σ' v cv) :
    St C σ0 n (putO t d v) H' (a.put d cv) w' σ' :=
  ⟨h.pre.trans hp, hr, (h.fr.mono (SLe.pre hp)).put hd hv, by cases d <;> exact h.defers⟩

theorem relF_toList {σ : Sg} {n : Nat} {t : Fr} {a : Act} (hF : relF σ n t a.tmps) (l : List Operand) : relL σ ((l.map cO).map (evalO t)) (l.map a.eval) := by
  rw [List.map_map]; exact relL_map hF

/-- one operation -/
theorem FWop_soundP {C : Ctx} {σ0 : Sg} {n : Nat} {t : Fr} {H : AHeap} {a : Act} {w : World} {σ : Sg} (h : St C σ0 n t H a w σ) {o : Oper} {f : FOp} (hc : compOp C.P o.op = some f) (hd : o.dst.all (fun d => d < n) = true) {k : AVal → AHeap → Prop} (hk : FWop C f t H k)
    {next : Act → World → Prop} {Q : Exit → Act → World → Prop} (hn : ∀ v H' a' w' σ', σ <+: σ' → k v H' → St C σ0 n (putO t o.dst v) H' a' w' σ' → next a' w') : o.wp C.P a w next Q := by
  unfold FWop at hk
  split at hk
  · rename_i fx args
    split at hk
    · rename_i fi caps hfn
      obtain ⟨⟨fn, hfn1, hfn2, hfn3⟩, hcall⟩ := hk
      obtain ⟨c, x, ho, hcal, rfl, rfl⟩ := compOp_call hc
      have hx := relO h.fr x
      rw [hfn] at hx
      obtain ⟨cs, e, hcs⟩ : ∃ cs : Array Value, a.eval x = .func (.func fi) #[] cs ∧ relL σ caps cs.toList := by simpa only [relV] using hx
      have hrun : (execOp a.eval o).run C.P w = .ok (.enter fi (c.args.map a.eval ++ cs)) w := by
        have n1 : ¬ fn.name = "runtime.NumGoroutine" := by simpa using hfn2
        have n2 : ¬ fn.body = none := fun e => by rw [e] at hfn3; simp at hfn3
        simp [execOp, ho, resolve, hcal, e, Deferred.ofValue, invoke, callFunc, hfn1, n1, n2, pure]
      unfold Oper.wp
      rw [hrun, Oper.upon_enter]
      refine (hcall σ w _ h.rep ?_).mono ?_
      · rw [Array.toList_append, Array.toList_map]
        exact (relF_toList h.fr _).append hcs
      · rintro e w' ⟨v, av, H', σ', rfl, hp, hpre, hv, hrep⟩
        exact hn av H' _ _ σ' hpre hp (h.put hpre hrep hd hv)
    · rename_i fi first hfn
      obtain ⟨⟨fn, hfn1, hfn2, hfn3⟩, hcall⟩ := hk
      obtain ⟨c, x, ho, hcal, rfl, rfl⟩ := compOp_call hc
      have hx := relO h.fr x
      rw [hfn] at hx
      obtain ⟨cs, e, hcs⟩ : ∃ cs : Array Value, a.eval x = .func (.func fi) cs #[] ∧ relL σ first cs.toList := by simpa only [relV] using hx
      have hrun : (execOp a.eval o).run C.P w = .ok (.enter fi (cs ++ c.args.map a.eval)) w := by
        have n1 : ¬ fn.name = "runtime.NumGoroutine" := by simpa using hfn2
        have n2 : ¬ fn.body = none := fun e => by rw [e] at hfn3; simp at hfn3
        simp [execOp, ho, resolve, hcal, e, Deferred.ofValue, invoke, callFunc, hfn1, n1, n2, pure]
      unfold Oper.wp
      rw [hrun, Oper.upon_enter]
      refine (hcall σ w _ h.rep ?_).mono ?_
      · rw [Array.toList_append, Array.toList_map]
        exact hcs.append (relF_toList h.fr _)
      · rintro e w' ⟨v, av, H', σ', rfl, hp, hpre, hv, hrep⟩
        exact hn av H' _ _ σ' hpre hp (h.put hpre hrep hd hv)
    · exact hk.elim
  · split at hk
    rotate_left
    · exact hk.elim
    rename_i v H' hstep
    obtain ⟨nx, cv, w', σ', hr, hnx, hg, hv, hrep⟩ := step_sound h.rep h.fr o hc (Free.end h.rep.len) hstep
    have hp : σ <+: σ' := hg.pre h.rep.len.symm
    unfold Oper.wp
    rw [hr]
    rcases hnx with rfl | ⟨rfl, rfl⟩
    · rw [Oper.upon_value]; exact hn v H' _ _ σ' hp hk (h.put hp hrep hd hv)
    · rw [Oper.upon_skip]; exact hn v H' _ _ σ' hp hk (h.put hp hrep hd hv)

theorem FWop_sound {C : Ctx} {σ0 : Sg} {n : Nat} {t : Fr} {H : AHeap} {a : Act} {w : World} {σ : Sg} (h : St C σ0 n t H a w σ) {o : Oper} {f : FOp} (hc : compOp C.P o.op = some f) (hd : o.dst.all (fun d => d < n) = true) {k : AVal → AHeap → Prop} (hk : FWop C f t H k)
    {next : Act → World → Prop} {Q : Exit → Act → World → Prop} (hn : ∀ v H' a' w' σ', k v H' → St C σ0 n (putO t o.dst v) H' a' w' σ' → next a' w') : o.wp C.P a w next Q :=
  FWop_soundP h hc hd hk fun v H' a' w' σ' _ => hn v H' a' w' σ'

/-- one operation that calls nothing, what is new at a free place -/
theorem stepAt_sound {C : Ctx} {σ0 : Sg} {n : Nat} {t : Fr} {H : AHeap} {a : Act} {w : World} {σ : Sg} (h : St C σ0 n t H a w σ) {o : Oper} {f : FOp} (hc : compOp C.P o.op = some f) (hd : o.dst.all (fun d => d < n) = true) {p : Nat} (hp : Free σ H p) (hp0 : σ0.length ≤ p) {v : AVal} {H' : AHeap}
    (hs : stepAt C p t H f = some (v, H')) {next : Act → World → Prop} {Q : Exit → Act → World → Prop} (hn : ∀ a' w' σ', Grow p σ σ' → St C σ0 n (putO t o.dst v) H' a' w' σ' → next a' w') : o.wp C.P a w next Q := by
  obtain ⟨nx, cv, w', σ', hr, hnx, hg, hv, hrep⟩ := step_sound h.rep h.fr o hc hp hs
  have hle : SLe σ σ' := hg.le hp h.rep.len
  have hpre : σ0 <+: σ' := by
    rcases hg with rfl | ⟨s, rfl⟩
    · exact h.pre
    · rw [List.prefix_iff_getElem?]
      intro i hi
      have h1 := (List.prefix_iff_getElem?.1 h.pre) i hi
      unfold setAt
      split
      · rw [List.getElem?_set_ne (by omega)]; exact h1
      · rw [List.getElem?_append_left (List.getElem?_eq_some_iff.1 h1).1]; exact h1
  have hst : St C σ0 n (putO t o.dst v) H' (a.put o.dst cv) w' σ' := ⟨hpre, hrep, (h.fr.mono hle).put hd hv, by cases o.dst <;> exact h.defers⟩
  unfold Oper.wp
  rw [hr]
  rcases hnx with rfl | ⟨rfl, rfl⟩
  · rw [Oper.upon_value]; exact hn _ _ σ' hg hst
  · rw [Oper.upon_skip]; exact hn _ _ σ' hg hst

theorem compOper_some {P : Program} {n : Nat} {ops : List Oper} {o : Oper} {f : FOper} (h : compOper P n ops o = some f) :
    compGuard ops o.guard = some f.guard ∧ compOp P o.op = some f.op ∧ o.dst.all (fun d => d < n) = true ∧ f.dst = o.dst := by
  unfold compOper at h
  split at h
  · split at h
    · simp only [Option.some.injEq] at h; subst h; exact ⟨by assumption, by assumption, by assumption, rfl⟩
    · cases h
  · cases h

/-- which operation stands for which -/
def Stands (P : Program) (n : Nat) (ops : Array Oper) (i : Nat) (f : FOper) : Prop := ∃ o, ops[i]? = some o ∧ compOper P n ops.toList o = some f

theorem FWops_sound {C : Ctx} {σ0 : Sg} {n : Nat} {ops : Array Oper} {Q : Exit → Act → World → Prop} {idxs : List Nat} {l : List FOper} (hall : All2 (Stands C.P n ops) idxs l) : ∀ {t : Fr} {H : AHeap} {K : Fr → AHeap → Prop} {a : Act} {w : World} {σ : Sg},
    FWops C l t H K → St C σ0 n t H a w σ → (∀ t H a w σ, K t H → St C σ0 n t H a w σ → Q .normal a w) → wpOps C.P ops Q idxs a w := by
  induction hall with
  | nil => intro t H K a w σ hw hst hQ; exact hQ _ _ _ _ _ hw hst
  | @cons i f idxs l hs hrest ih =>
    intro t H K a w σ hw hst hQ
    obtain ⟨o, ho, hc⟩ := hs
    obtain ⟨hg, hop, hd, hdst⟩ := compOper_some hc
    simp only [wpOps, ho]
    have go : FWop C f.op t H (fun v H' => FWops C l (putO t f.dst v) H' K) → o.wp C.P a w (wpOps C.P ops Q idxs) Q := fun hk =>
      FWop_sound hst hop hd hk (fun v H' a' w' σ' hk' hst' => ih hk' (by rw [hdst]; exact hst') hQ)
    cases hgd : o.guard with
    | none =>
      rw [hgd] at hg
      simp only [compGuard, Option.some.injEq] at hg
      unfold FWops at hw
      rw [← hg] at hw
      rw [if_pos (by simp [Region.wanted, hgd])]
      exact .inl (go hw)
    | some g =>
      obtain ⟨j, b⟩ := g
      rw [hgd] at hg
      simp only [compGuard] at hg
      split at hg
      rotate_left
      · cases hg
      rename_i oj hoj
      simp only [Option.map_eq_some_iff] at hg
      obtain ⟨d, hdj, hg⟩ := hg
      unfold FWops at hw
      rw [← hg] at hw
      simp only at hw
      have hskip : relV σ (.tup []) undef := by simp only [relV]; exact ⟨#[], rfl, by simp [relL]⟩
      have hoj' : ops[j]? = some oj := by rw [← Array.getElem?_toList]; exact hoj
      have hrel := hst.fr.2 d
      split at hw
      · rename_i bb hbb
        rw [hbb] at hrel
        have hval : a.tmps.getD d undef = .bool bb := by simpa only [relV] using hrel
        have hy : yielded ops a.tmps j = some bb := by
          unfold yielded
          simp only [hoj', Option.bind_some, hdj]
          have : a.tmps[d]? = some (.bool bb) := by
            rw [Array.getD_eq_getD_getElem?] at hval
            cases hh : a.tmps[d]? with
            | none => rw [hh] at hval; simp [undef] at hval
            | some v => rw [hh] at hval; simpa using hval
          rw [this]
        by_cases e : bb = b
        · rw [if_pos e] at hw
          rw [if_pos (by simp [Region.wanted, hgd, hy, e])]
          exact .inl (go hw)
        · rw [if_neg e] at hw
          rw [if_neg (by simp [Region.wanted, hgd, hy, e])]
          rw [hdst] at hw
          exact ih hw (hst.put List.prefix_rfl hst.rep hd hskip) hQ
      · rename_i l hbb
        rw [hbb] at hrel
        obtain ⟨cs, hval, _⟩ : ∃ cs : Array Value, a.tmps.getD d undef = .tuple cs ∧ relL σ l cs.toList := by simpa only [relV] using hrel
        have hy : yielded ops a.tmps j = none := by
          unfold yielded
          simp only [hoj', Option.bind_some, hdj]
          rw [Array.getD_eq_getD_getElem?] at hval
          cases hh : a.tmps[d]? with
          | none => rfl
          | some v => rw [hh] at hval; simp at hval; rw [hval]
        rw [if_neg (by simp [Region.wanted, hgd, hy])]
        rw [hdst] at hw
        exact ih hw (hst.put List.prefix_rfl hst.rep hd hskip) hQ
      · exact hw.elim

theorem optAll_forall {α β : Type} {f : α → Option β} : ∀ {l : List α} {r : List β}, optAll f l = some r → All2 (fun a b => f a = some b) l r
  | [], r, h => by simp only [optAll, Option.some.injEq] at h; subst h; exact .nil
  | a :: l, r, h => by
    simp only [optAll] at h
    split at h
    · rename_i b r' hb hr
      simp only [Option.some.injEq] at h; subst h
      exact .cons hb (optAll_forall hr)
    · cases h

theorem stands_range {P : Program} {n : Nat} {ops : Array Oper} {l : List FOper} (h : optAll (compOper P n ops.toList) ops.toList = some l) : All2 (Stands P n ops) (List.range ops.size) l := by
  have h1 := optAll_forall h
  have key : ∀ (k : Nat) (os : List Oper) (fs : List FOper), All2 (fun o f => compOper P n ops.toList o = some f) os fs → (∀ j, os[j]? = ops[k + j]?) → All2 (Stands P n ops) (List.range' k os.length) fs := by
    intro k os
    induction os generalizing k with
    | nil => intro fs h _; cases h; exact .nil
    | cons o os ih =>
      intro fs h hg
      cases h with
      | cons ho hr =>
        rw [List.length_cons, List.range'_succ]
        exact .cons ⟨o, by simpa using (hg 0).symm, ho⟩ (ih (k + 1) _ hr (fun j => by have := hg (j + 1); simpa [Nat.add_assoc, Nat.add_comm 1 j] using this))
  have := key 0 ops.toList l h1 (by simp)
  rwa [← List.range_eq_range', Array.length_toList] at this

end Go.F
