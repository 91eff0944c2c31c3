/- The code: its rules. -/
import Derived.Test.YtlghjfmehfochaaDoorFG6
import Derived.Deep.LoopGhost
set_option linter.all false
namespace Go.F
open Go.RowKit

def backOK (ops : Array Oper) : Bool := (edgesOf ops).zipIdx.all fun p => p.1.all fun e => e < p.2

def treeOf (ops : Array Oper) (l : List FOper) : OTree :=
  mkTree (fun i => (edgesOf ops).getD i []) (fun i => (befs (edgesOf ops) []).getD i 0) (fun i => l.getD i ⟨none, none, .mov (.tmp 0)⟩) (ops.size + 1) (List.range ops.size)

def ancOf (ops : Array Oper) (j : Nat) : List Nat := (List.range ops.size).filter fun i => ((befs (edgesOf ops) []).getD j 0).testBit i

def treeROf (ops : Array Oper) (l : List FOper) : RTree :=
  mkTreeR (fun i => (edgesOf ops).getD i []) (ancOf ops) (fun i => l.getD i ⟨none, none, .mov (.tmp 0)⟩) (ops.size + 1) (List.range ops.size)

def comp (P : Program) (n : Nat) : Code → Option FC
  | .skip => some .skip
  | .region _ ops draw => match optAll (compOper P n ops.toList) ops.toList with
    | some l => if draw then (if backOK ops && P.follows .mixedOrders then some (if (treeOf ops l).linear then .draw (treeOf ops l) else .drawR ops.size (treeROf ops l)) else none) else some (.ops l)
    | none => none
  | .seq a b => match comp P n a, comp P n b with
    | some x, some y => some (.seq x y)
    | _, _ => none
  | .cond c a b => match comp P n a, comp P n b with
    | some x, some y => some (.cond (cO c) x y)
    | _, _ => none
  | .block id a => (comp P n a).map (.block id)
  | .loop a => (comp P n a).map .loop
  | .exit id => some (.exit id)
  | .scope a => (comp P n a).map .scope
  | .label l => some (.label l)
  | .goto l => some (.goto l)
  | .ret => some .ret
  | _ => none

/-- the setting of one function's walk: the slots of its frame, how many numbers its caller has -/
structure Fx where
  C : Ctx
  n : Nat
  n0 : Nat

abbrev FQ := Exit → Fr → AHeap → Prop

/-- what Q says of a real end -/
def realQ (X : Fx) (σ0 : Sg) (Q : FQ) : Exit → Act → World → Prop := fun e a w => ∃ t H σ, Q e t H ∧ St X.C σ0 X.n t H a w σ

/-- THE WALK OF A PIECE OF CODE. -/
def FW (X : Fx) (fc : FC) (t : Fr) (H : AHeap) (Q : FQ) : Prop :=
  ∀ c, comp X.C.P X.n c = some fc → ∀ (σ0 : Sg), σ0.length = X.n0 → ∀ a w σ, St X.C σ0 X.n t H a w σ → c.wp X.C.P (realQ X σ0 Q) a w

theorem FW.mono {X : Fx} {fc : FC} {t : Fr} {H : AHeap} {Q Q' : FQ} (h : FW X fc t H Q) (hq : ∀ e t H, Q e t H → Q' e t H) : FW X fc t H Q' :=
  fun c hc σ0 hl a w σ hs => wp_mono (h c hc σ0 hl a w σ hs) fun _ _ _ ⟨t, H, σ, q, s⟩ => ⟨t, H, σ, hq _ _ _ q, s⟩

theorem FW.skip {X : Fx} {t : Fr} {H : AHeap} {Q : FQ} (h : Q .normal t H) : FW X .skip t H Q := by
  intro c hc σ0 hl a w σ hs
  cases c <;> simp [comp] at hc
  case skip => exact wp_skip ⟨t, H, σ, h, hs⟩
  all_goals (repeat' split at hc) <;> simp at hc

theorem FW.exit {X : Fx} {t : Fr} {H : AHeap} {Q : FQ} {id : Nat} (h : Q (.exit id) t H) : FW X (.exit id) t H Q := by
  intro c hc σ0 hl a w σ hs
  cases c <;> simp [comp] at hc
  case exit => subst hc; exact wp_exit ⟨t, H, σ, h, hs⟩
  all_goals (repeat' split at hc) <;> simp at hc

theorem FW.ret {X : Fx} {t : Fr} {H : AHeap} {Q : FQ} (h : Q .ret t H) : FW X .ret t H Q := by
  intro c hc σ0 hl a w σ hs
  cases c <;> simp [comp] at hc
  case ret => exact wp_ret ⟨t, H, σ, h, hs⟩
  all_goals (repeat' split at hc) <;> simp at hc

theorem FW.goto {X : Fx} {t : Fr} {H : AHeap} {Q : FQ} {l : Nat} (h : Q (.goto l) t H) : FW X (.goto l) t H Q := by
  intro c hc σ0 hl a w σ hs
  cases c <;> simp [comp] at hc
  case goto => subst hc; exact wp_goto ⟨t, H, σ, h, hs⟩
  all_goals (repeat' split at hc) <;> simp at hc

theorem FW.label {X : Fx} {t : Fr} {H : AHeap} {Q : FQ} {l : Nat} (h : Q .normal t H) : FW X (.label l) t H Q := by
  intro c hc σ0 hl a w σ hs
  cases c <;> simp [comp] at hc
  case label => exact wp_label ⟨t, H, σ, h, hs⟩
  all_goals (repeat' split at hc) <;> simp at hc

/-- behind a: b -/
def seqQ (X : Fx) (b : FC) (Q : FQ) : FQ := fun e t H => match e with
  | .normal => FW X b t H Q
  | e => Q e t H

theorem FW.seq {X : Fx} {x y : FC} {t : Fr} {H : AHeap} {Q : FQ} (h : FW X x t H (seqQ X y Q)) : FW X (.seq x y) t H Q := by
  intro c hc σ0 hl a w σ hs
  cases c <;> simp only [comp, reduceCtorEq, Option.some.injEq, Option.map_eq_some_iff, and_false, exists_false] at hc
  case seq p q =>
    split at hc
    · rename_i fx fy hx hy
      simp only [Option.some.injEq, FC.seq.injEq] at hc
      obtain ⟨rfl, rfl⟩ := hc
      refine wp_seq (wp_mono (h p hx σ0 hl a w σ hs) ?_)
      rintro e a' w' ⟨t', H', σ', q, s⟩
      cases e with
      | normal => exact q _ hy σ0 hl _ _ _ s
      | _ => exact ⟨t', H', σ', q, s⟩
    · cases hc
  all_goals (repeat' split at hc) <;> simp at hc

theorem FW.cond {X : Fx} {c : FOpd} {x y : FC} {t : Fr} {H : AHeap} {Q : FQ} {b : Bool} (hc : evalO t c = .bool b) (h1 : b = true → FW X x t H Q) (h2 : b = false → FW X y t H Q) : FW X (.cond c x y) t H Q := by
  intro cc hcc σ0 hl a w σ hs
  cases cc <;> simp only [comp, reduceCtorEq, Option.some.injEq, Option.map_eq_some_iff, and_false, exists_false] at hcc
  case cond o p q =>
    split at hcc
    · rename_i fx fy hx hy
      simp only [Option.some.injEq, FC.cond.injEq] at hcc
      obtain ⟨rfl, rfl, rfl⟩ := hcc
      have hr := relO hs.fr o
      rw [hc] at hr
      have e : a.eval o = .bool b := by simpa only [relV] using hr
      exact wp_cond_split e (fun hb => h1 hb p hx σ0 hl a w σ hs) (fun hb => h2 hb q hy σ0 hl a w σ hs)
    · cases hcc
  all_goals (repeat' split at hcc) <;> simp at hcc

def blockQ (id : Nat) (Q : FQ) : FQ := fun e t H => match e with
  | .exit j => if j = id then Q .normal t H else Q (.exit j) t H
  | e => Q e t H

theorem FW.block {X : Fx} {id : Nat} {x : FC} {t : Fr} {H : AHeap} {Q : FQ} (h : FW X x t H (blockQ id Q)) : FW X (.block id x) t H Q := by
  intro c hc σ0 hl a w σ hs
  cases c <;> simp only [comp, reduceCtorEq, Option.some.injEq, Option.map_eq_some_iff, and_false, exists_false] at hc
  case block id' p =>
    obtain ⟨fx, hx, e⟩ := hc
    simp only [FC.block.injEq] at e
    obtain ⟨rfl, rfl⟩ := e
    refine wp_block (wp_mono (h p hx σ0 hl a w σ hs) ?_)
    rintro e a' w' ⟨t', H', σ', q, s⟩
    cases e with
    | exit j =>
      simp only [blockQ] at q
      simp only [Exit.inBlock]
      split
      · rename_i ej; rw [if_pos ej] at q; exact ⟨t', H', σ', q, s⟩
      · rename_i ej; rw [if_neg ej] at q; exact ⟨t', H', σ', q, s⟩
    | _ => exact ⟨t', H', σ', q, s⟩
  all_goals (repeat' split at hc) <;> simp at hc

def loopQ (I : Fr → AHeap → Nat → Prop) (m : Nat) (Q : FQ) : FQ := fun e t H => match e with
  | .normal => ∃ m', m' < m ∧ I t H m'
  | e => Q e t H

/-- A LOOP: what holds at every round's head, with a number that goes down. -/
theorem FW.loop {X : Fx} {x : FC} {t : Fr} {H : AHeap} {Q : FQ} (I : Fr → AHeap → Nat → Prop) (m : Nat) (h0 : I t H m) (hr : ∀ t H m, I t H m → FW X x t H (loopQ I m Q)) : FW X (.loop x) t H Q := by
  intro c hc σ0 hl a w σ hs
  cases c <;> simp only [comp, reduceCtorEq, Option.some.injEq, Option.map_eq_some_iff, and_false, exists_false] at hc
  case loop p =>
    obtain ⟨fx, hx, e⟩ := hc
    simp only [FC.loop.injEq] at e
    subst e
    refine wp_loop_ghost (fun m a w => ∃ t H σ, I t H m ∧ St X.C σ0 X.n t H a w σ) m ⟨t, H, σ, h0, hs⟩ ?_
    rintro m1 a1 w1 ⟨t1, H1, σ1, hI1, hs1⟩
    refine wp_mono (hr _ _ _ hI1 p hx σ0 hl a1 w1 σ1 hs1) ?_
    rintro e a' w' ⟨t', H', σ', q, s⟩
    cases e with
    | normal =>
      obtain ⟨m', hlt, hI'⟩ := q
      exact ⟨m', hlt, t', H', σ', hI', s⟩
    | _ => exact ⟨t', H', σ', q, s⟩
  all_goals (repeat' split at hc) <;> simp at hc

theorem all2_get {α β : Type} {R : α → β → Prop} : ∀ {l : List α} {r : List β}, All2 R l r → l.length = r.length ∧ ∀ (i : Nat) (a : α), l[i]? = some a → ∃ b, r[i]? = some b ∧ R a b
  | _, _, .nil => ⟨rfl, fun i a h => by simp at h⟩
  | _, _, .cons h t => by
    obtain ⟨h1, h2⟩ := all2_get t
    refine ⟨by simp [h1], fun i a hi => ?_⟩
    cases i with
    | zero => simp only [List.getElem?_cons_zero, Option.some.injEq] at hi ⊢; subst hi; exact ⟨_, rfl, h⟩
    | succ i => simpa using h2 i a (by simpa using hi)

theorem draw_sched {C : Ctx} {n : Nat} {ops : Array Oper} {l : List FOper} (hl : optAll (compOper C.P n ops.toList) ops.toList = some l) (hlt : backOK ops = true) (tp : Nat) :
    let A : Nat → List Nat := fun i => (edgesOf ops).getD i []
    let L : Nat → FOper := fun i => l.getD i ⟨none, none, .mov (.tmp 0)⟩
    (∀ i, i < ops.size → ∀ e ∈ A i, e < i) ∧ Sched A ops.size [] (Region.schedule true ops tp) ∧ (∀ i, i < ops.size → Stands C.P n ops i (L i)) := by
  unfold backOK at hlt
  simp only [List.all_eq_true] at hlt
  have hst := stands_range hl
  obtain ⟨hlen, hget⟩ := all2_get hst
  rw [List.length_range] at hlen
  have hsch : Region.schedule true ops tp = Region.linearise .any ops tp := rfl
  intro A L
  have hA : ∀ (i : Nat) (o : Oper), ops[i]? = some o → A i = edgesIn o := by
    intro i o ho
    simp only [A, edgesOf, List.getD_eq_getElem?_getD, List.getElem?_map, Array.getElem?_toList, ho, Option.map_some, Option.getD_some]
  have hAlt : ∀ i, i < ops.size → ∀ e ∈ A i, e < i := by
    intro i hi e he
    have hmem : (A i, i) ∈ (edgesOf ops).zipIdx := by
      rw [List.mem_zipIdx_iff_getElem?]
      simp only [A, List.getD_eq_getElem?_getD, edgesOf, List.getElem?_map, Array.getElem?_toList, Array.getElem?_eq_getElem hi, Option.map_some, Option.getD_some]
    have := hlt _ hmem e he
    simpa using this
  obtain ⟨s, hs, hsd⟩ := lin_sched ops A hA hAlt ops.size tp (Array.replicate ops.size false) [] (by simp) (by
      intro i hi; simp [Array.getD_eq_getD_getElem?, hi]) (by
      have := List.countP_le_length (p := fun i => !([] : List Nat).contains i) (l := List.range ops.size)
      simp at this ⊢)
  have hs' : Region.schedule true ops tp = s := by rw [hsch]; unfold Region.linearise; rw [hs]; simp
  refine ⟨hAlt, by rw [hs']; exact hsd, fun i hi => ?_⟩
  have hi2 : i < l.length := by omega
  have hLi : l[i]? = some (L i) := by
    simp [L, List.getD_eq_getElem?_getD, List.getElem?_eq_getElem hi2]
  obtain ⟨b, hb, hR⟩ := hget i i (by rw [List.getElem?_range hi])
  rw [hLi] at hb
  cases hb
  exact hR

theorem Sched.mem {A : Nat → List Nat} {n : Nat} : ∀ {d s : List Nat}, Sched A n d s → s.Nodup ∧ ∀ i ∈ s, i < n ∧ i ∉ d := by
  intro d s hs
  induction hs with
  | nil _ => exact ⟨List.nodup_nil, fun i hi => by cases hi⟩
  | @cons d i s h1 h2 _ _ ih =>
    refine ⟨List.nodup_cons.2 ⟨fun hin => (ih.2 i hin).2 (by simp), ih.1⟩, fun x hx => ?_⟩
    rcases List.mem_cons.1 hx with rfl | hx
    · exact ⟨h1, h2⟩
    · exact ⟨(ih.2 x hx).1, fun h => (ih.2 x hx).2 (List.mem_cons_of_mem _ h)⟩

theorem draw_orders {C : Ctx} {n : Nat} {ops : Array Oper} {l : List FOper} (hl : optAll (compOper C.P n ops.toList) ops.toList = some l) (hlt : backOK ops = true) (tp : Nat) {t : Fr} {H : AHeap} {K : Fr → AHeap → Prop} (h : FWtree C (treeOf ops l) t H K) :
    ∃ l', All2 (Stands C.P n ops) (Region.schedule true ops tp) l' ∧ FWops C l' t H K := by
  obtain ⟨hAlt, hsd, hS⟩ := draw_sched hl hlt tp
  refine ⟨(Region.schedule true ops tp).map fun i => l.getD i ⟨none, none, .mov (.tmp 0)⟩, ?_, ?_⟩
  · have hm := hsd.mem.2
    generalize Region.schedule true ops tp = s at hm
    induction s with
    | nil => exact .nil
    | cons i s ih => exact .cons (hS i (hm i (by simp)).1) (ih fun x hx => hm x (by simp [hx]))
  · refine tree_sound (A := fun i => (edgesOf ops).getD i []) (n := ops.size) (m := fun i => (befs (edgesOf ops) []).getD i 0) (L := fun i => l.getD i ⟨none, none, .mov (.tmp 0)⟩) ?_ (ops.size + 1) (List.range ops.size) [] _ List.nodup_range (by simp) (by simp) (fun i hi e he => Nat.lt_trans (hAlt i hi e he) hi) hsd t H h
    intro D hcl i j _ hb hE
    exact befs_sound (edgesOf ops) (fun d => d ∈ D) hcl [] (edgesOf ops) [] rfl rfl (fun j i hb => by simp at hb) i j hb hE

theorem drawR_orders {C : Ctx} {n : Nat} {ops : Array Oper} {l : List FOper} (hl : optAll (compOper C.P n ops.toList) ops.toList = some l) (hlt : backOK ops = true) (tp : Nat) {hh : Nat} {t : Fr} {H : AHeap} {K : Fr → AHeap → Prop} (h : FWtreeR C hh (treeROf ops l) [] t H K) :
    FWopsR C hh (ancOf ops) (fun i => l.getD i ⟨none, none, .mov (.tmp 0)⟩) (Region.schedule true ops tp) [] t H K := by
  obtain ⟨hAlt, hsd, hS⟩ := draw_sched hl hlt tp
  refine treeR_sound (A := fun i => (edgesOf ops).getD i []) (n := ops.size) (anc := ancOf ops) (L := fun i => l.getD i ⟨none, none, .mov (.tmp 0)⟩) ?_ (ops.size + 1) (List.range ops.size) [] _ List.nodup_range (by simp) (by simp) (fun i hi e he => Nat.lt_trans (hAlt i hi e he) hi) hsd [] t H h
  intro D hcl i j _ hb hE
  unfold ancOf at hb
  rw [List.mem_filter] at hb
  exact befs_sound (edgesOf ops) (fun d => d ∈ D) hcl [] (edgesOf ops) [] rfl rfl (fun j i hb => by simp at hb) i j hb.2 hE

theorem FW.ops {X : Fx} {l : List FOper} {t : Fr} {H : AHeap} {Q : FQ} (h : FWops X.C l t H (fun t H => Q .normal t H)) : FW X (.ops l) t H Q := by
  intro c hc σ0 hl a w σ hs
  cases c <;> simp only [comp, reduceCtorEq, Option.some.injEq, Option.map_eq_some_iff, and_false, exists_false] at hc
  case region id ops draw =>
    split at hc
    · rename_i l' hl'
      cases draw with
      | false =>
        simp only [Bool.false_eq_true, if_false, Option.some.injEq, FC.ops.injEq] at hc
        subst hc
        exact wp_region (FWops_sound (stands_range hl') h hs fun t H a w σ q s => ⟨t, H, σ, q, s⟩)
      | true =>
        simp only [if_true] at hc
        (repeat' split at hc) <;> simp at hc
    · cases hc
  all_goals (repeat' split at hc) <;> simp at hc

theorem FW.draw {X : Fx} {T : OTree} {t : Fr} {H : AHeap} {Q : FQ} (h : FWtree X.C T t H (fun t H => Q .normal t H)) : FW X (.draw T) t H Q := by
  intro c hc σ0 hl a w σ hs
  cases c <;> simp only [comp, reduceCtorEq, Option.some.injEq, Option.map_eq_some_iff, and_false, exists_false] at hc
  case region id ops draw =>
    split at hc
    · rename_i l' hl'
      cases draw with
      | false => simp at hc
      | true =>
        simp only [if_true] at hc
        split at hc
        · rename_i hok
          simp only [Bool.and_eq_true] at hok
          split at hc <;> simp only [Option.some.injEq, FC.draw.injEq, reduceCtorEq] at hc
          subst hc
          refine wp_region_draw fun tp => ?_
          rw [hok.2]
          obtain ⟨l2, h1, h2⟩ := draw_orders hl' hok.1 tp h
          exact FWops_sound h1 h2 ⟨hs.pre, hs.rep.drew, hs.fr, hs.defers⟩ fun t H a w σ q s => ⟨t, H, σ, q, s⟩
        · cases hc
    · cases hc
  all_goals (repeat' split at hc) <;> simp at hc

theorem FW.drawR {X : Fx} {k : Nat} {T : RTree} {t : Fr} {H : AHeap} {Q : FQ} (h : FWtreeR X.C H.length T [] t (H ++ List.replicate k none) (fun t H => Q .normal t H)) : FW X (.drawR k T) t H Q := by
  intro c hc σ0 hl a w σ hs
  cases c <;> simp only [comp, reduceCtorEq, Option.some.injEq, Option.map_eq_some_iff, and_false, exists_false] at hc
  case region id ops draw =>
    split at hc
    · rename_i l' hl'
      cases draw with
      | false => simp at hc
      | true =>
        simp only [if_true] at hc
        split at hc
        · rename_i hok
          simp only [Bool.and_eq_true] at hok
          split at hc <;> simp only [Option.some.injEq, FC.drawR.injEq, reduceCtorEq] at hc
          obtain ⟨rfl, rfl⟩ := hc
          refine wp_region_draw fun tp => ?_
          rw [hok.2]
          have hst : St X.C σ0 X.n t H a w.drew σ := ⟨hs.pre, hs.rep.drew, hs.fr, hs.defers⟩
          obtain ⟨_, hsd, hS⟩ := draw_sched hl' hok.1 tp
          have hm := hsd.mem
          refine FWopsR_sound (h := H.length) (by have := hs.pre.length_le; have := hs.rep.len; omega) (fun t H a w σ q s => ⟨t, H, σ, q, s⟩) (fun i hi => hS i (hm.2 i hi).1) hm.1 ?_ (drawR_orders hl' hok.1 tp h) (hst.keep ops.size)
          intro i hi
          have hi1 := (hm.2 i hi).1
          have hl2 := hs.rep.len
          refine ⟨by simp; omega, ?_⟩
          unfold sg
          rw [List.getElem?_append_right (by omega), List.getElem?_replicate]
          split <;> rfl
        · cases hc
    · cases hc
  all_goals (repeat' split at hc) <;> simp at hc

/-- what is known may be forgotten: slots, cells at a row's end, blocks that the function made -/
structure Weak (X : Fx) (t : Fr) (H : AHeap) (t' : Fr) (H' : AHeap) : Prop where
  len : H'.length ≤ H.length
  floor : X.n0 ≤ H'.length
  fr : ∀ i, t' i = .any ∨ (t' i = t i ∧ (H'.length < H.length → (t i).lt H'.length))
  heap : ∀ i b', hget H' i = some b' → ∃ b, hget H i = some b ∧ b'.ty = b.ty ∧ b'.cells.length ≤ b.cells.length ∧ ∀ (j : Nat) (x : AVal), b'.cells[j]? = some x → x = .any ∨ (b.cells[j]? = some x ∧ (H'.length < H.length → x.lt H'.length))

theorem St.weak {X : Fx} {σ0 : Sg} {t : Fr} {H : AHeap} {t' : Fr} {H' : AHeap} (hl : σ0.length = X.n0) (h : Weak X t H t' H') {a : Act} {w : World} {σ : Sg} (s : St X.C σ0 X.n t H a w σ) : St X.C σ0 X.n t' H' a w (σ.take H'.length) := by
  have hpre : σ.take H'.length <+: σ := List.take_prefix _ _
  have hlen : (σ.take H'.length).length = H'.length := by rw [List.length_take, s.rep.len]; have := h.len; omega
  have split : ¬ (H'.length < H.length) → H'.length = H.length := fun hn => by have := h.len; omega
  refine ⟨?_, s.rep.cut h.len ?_, ⟨s.fr.1, fun i => ?_⟩, s.defers⟩
  · have h1 := s.pre
    obtain ⟨r, hr⟩ := h1
    refine ⟨r.take (H'.length - σ0.length), ?_⟩
    rw [← hr, List.take_append, List.take_of_length_le (l := σ0) (by rw [hl]; exact h.floor)]
  · intro i b' hb'
    obtain ⟨b, hb, h1, h2, h3⟩ := h.heap i b' hb'
    refine ⟨b, hb, h1, h2, fun j x hx => ?_⟩
    rcases h3 j x hx with e | ⟨e, hlt⟩
    · exact .inl e
    · refine .inr ⟨e, ?_⟩
      by_cases hq : H'.length < H.length
      · exact hlt hq
      · rw [split hq]
        obtain ⟨si, cs, _, _, _, _, _, hr, _⟩ := s.rep.blk i b hb
        have := ltL_iff.1 hr.isLt x (List.mem_of_getElem? e)
        rwa [s.rep.len] at this
  · rcases h.fr i with e | ⟨e, hlt⟩
    · rw [e]; simp only [relV]
    · rw [e]
      refine (s.fr.2 i).cut hpre ?_
      rw [hlen]
      by_cases hq : H'.length < H.length
      · exact hlt hq
      · rw [split hq]
        have := (s.fr.2 i).isLt
        rwa [s.rep.len] at this

theorem FW.weak {X : Fx} {fc : FC} {t : Fr} {H : AHeap} {Q : FQ} {t' : Fr} {H' : AHeap} (hw : Weak X t H t' H') (h : FW X fc t' H' Q) : FW X fc t H Q :=
  fun c hc σ0 hl a w σ hs => h c hc σ0 hl a w _ (hs.weak hl hw)

/-- from now on: what fits says that what is known is below the heap's length -/
theorem FW.known {X : Fx} {fc : FC} {t : Fr} {H : AHeap} {Q : FQ} (h : (∀ i b, hget H i = some b → ltL H.length b.cells) → (∀ i, (t i).lt H.length) → FW X fc t H Q) : FW X fc t H Q := by
  intro c hc σ0 hl a w σ hs
  refine h ?_ ?_ c hc σ0 hl a w σ hs
  · intro i b hb
    obtain ⟨s, cs, _, _, _, _, _, hr, _⟩ := hs.rep.blk i b hb
    have := hr.isLt
    rwa [hs.rep.len] at this
  · intro i
    have := (hs.fr.2 i).isLt
    rwa [hs.rep.len] at this

/-! the body of a function -/
inductive FRes where
  | tmp (i : Nat)
  | cell (i : Nat) (os : Option Nat)

def compRes (P : Program) (n : Nat) : List ResultVar → Option (List FRes)
  | [] => some []
  | .tmp i :: r => (compRes P n r).map fun l => .tmp i :: l
  | .cell i T :: r => match optSize P T, compRes P n r with
    | some os, some l => some (.cell i os :: l)
    | _, _ => none

def resV (C : Ctx) (t : Fr) (H : AHeap) : FRes → Option AVal
  | .tmp i => some (t i)
  | .cell i os => loadA C H os (t i)

def resL (C : Ctx) (t : Fr) (H : AHeap) : List FRes → Option (List AVal)
  | [] => some []
  | x :: r => match resV C t H x, resL C t H r with
    | some v, some l => some (v :: l)
    | _, _ => none

def tupV : List AVal → AVal
  | [v] => v
  | l => .tup l

def resVar1 (tmps : Array Value) : ResultVar → Sem Value
  | .tmp t => pure (tmps.getD t undef)
  | .cell a t => do loadVar t (← asAddr (tmps.getD a undef))

theorem results_eq (fn : Func) (tmps : Array Value) : results fn tmps = (do let vs ← fn.results.mapM (resVar1 tmps); pure (if h : vs.size = 1 then vs[0] else .tuple vs)) := rfl

theorem run_resVar {C : Ctx} {σ0 : Sg} {n : Nat} {t : Fr} {H : AHeap} {a : Act} {w : World} {σ : Sg} (s : St C σ0 n t H a w σ) : ∀ {rs : List ResultVar} {l : List FRes} {vs : List AVal}, compRes C.P n rs = some l → resL C t H l = some vs →
    ∃ cvs, (rs.mapM (resVar1 a.tmps) : Sem (List Value)).run C.P w = .ok cvs w ∧ relL σ vs cvs
  | [], l, vs, hc, hv => by
    simp only [compRes, Option.some.injEq] at hc; subst hc
    simp only [resL, Option.some.injEq] at hv; subst hv
    exact ⟨[], by simp, by simp [relL]⟩
  | .tmp i :: rs, l, vs, hc, hv => by
    simp only [compRes, Option.map_eq_some_iff] at hc
    obtain ⟨l', hl', rfl⟩ := hc
    simp only [resL, resV] at hv
    split at hv
    · rename_i v vl hv1 hv2
      simp only [Option.some.injEq] at hv hv1; subst hv; subst hv1
      obtain ⟨cvs, h1, h2⟩ := run_resVar s hl' hv2
      refine ⟨a.tmps.getD i undef :: cvs, ?_, by simp only [relL]; exact ⟨_, _, rfl, s.fr.2 i, h2⟩⟩
      have h0 : (resVar1 a.tmps (.tmp i)).run C.P w = .ok (a.tmps.getD i undef) w := rfl
      rw [List.mapM_cons]
      simp only [Sem.run_bind, h0, Sem.run_pure, Result.andThen, h1]
    · cases hv
  | .cell i T :: rs, l, vs, hc, hv => by
    simp only [compRes] at hc
    split at hc
    · rename_i os l' hos hl'
      simp only [Option.some.injEq] at hc; subst hc
      simp only [resL, resV] at hv
      split at hv
      · rename_i v vl hv1 hv2
        simp only [Option.some.injEq] at hv; subst hv
        obtain ⟨cvs, h1, h2⟩ := run_resVar s hl' hv2
        have hload : ∃ cv, (resVar1 a.tmps (.cell i T)).run C.P w = .ok cv w ∧ relV σ v cv := by
          have hx := s.fr.2 i
          generalize hg : t i = g at *
          cases g <;> simp only [loadA, reduceCtorEq] at hv1
          rename_i p
          obtain ⟨c, hc, e⟩ : ∃ c, conc σ p = some c ∧ a.tmps.getD i undef = .pointer (some c) := by simpa only [relV] using hx
          obtain ⟨d, ti, hu, hi, ⟨hd, rfl⟩ | ⟨hd, rfl⟩⟩ := optSize_cases hos
          · simp only [Option.map_eq_some_iff] at hv1
            obtain ⟨l, hl, rfl⟩ := hv1
            obtain ⟨us, hlen, hcell, hrel⟩ := ldn_sound s.rep hc hl
            have hr := Go.F.run_loadCells (P := C.P) hlen hcell
            exact ⟨.agg us.toArray, by simp [resVar1, e, asAddr, loadVar, run_isAgg hu, hd, sizeOf, typeInfo, hi, hr], by simp only [relV]; exact ⟨_, rfl, hrel⟩⟩
          · simp only at hv1
            obtain ⟨cv, hcv, hrel⟩ := ldc_sound s.rep hv1 hc
            have e0 : c.add 0 = c := by simp [Addr.add]
            rw [e0] at hcv
            exact ⟨cv, by simp [resVar1, e, asAddr, loadVar, run_isAgg hu, hd, hcv], hrel⟩
        obtain ⟨cv, hcv, hrv⟩ := hload
        refine ⟨cv :: cvs, ?_, by simp only [relL]; exact ⟨_, _, rfl, hrv, h2⟩⟩
        rw [List.mapM_cons]
        simp only [Sem.run_bind, hcv, Sem.run_pure, Result.andThen, h1]
      · cases hv
    · cases hc

theorem run_resultsF {C : Ctx} {σ0 : Sg} {n : Nat} {t : Fr} {H : AHeap} {a : Act} {w : World} {σ : Sg} (s : St C σ0 n t H a w σ) {fn : Func} {l : List FRes} {vs : List AVal} (hc : compRes C.P n fn.results.toList = some l) (hv : resL C t H l = some vs) :
    ∃ cv, (results fn a.tmps).run C.P w = .ok cv w ∧ relV σ (tupV vs) cv := by
  obtain ⟨cvs, h1, h2⟩ := run_resVar s hc hv
  have hr : (results fn a.tmps).run C.P w = .ok (if h : cvs.toArray.size = 1 then cvs.toArray[0] else .tuple cvs.toArray) w := by
    rw [results_eq, Array.mapM_eq_mapM_toList]
    simp only [Sem.run_bind, Sem.run_map, h1, Result.andThen, Sem.run_pure]
  refine ⟨_, hr, ?_⟩
  match vs, cvs, h2 with
  | [], cvs, h2 => simp only [relL] at h2; subst h2; simp only [tupV, relV]; exact ⟨#[], by simp, by simp [relL]⟩
  | [v], cvs, h2 =>
    simp only [relL] at h2
    obtain ⟨u, us, rfl, h3, rfl⟩ := h2
    simpa [tupV] using h3
  | v :: v' :: vs, cvs, h2 =>
    have hl := h2.length
    simp only [tupV, relV]
    refine ⟨cvs.toArray, ?_, h2⟩
    rw [dif_neg]
    simp [hl]

def frA (args : List AVal) : Fr := fun i => (args[i]?).getD .any

/-- at the end of a function -/
def retQ (X : Fx) (rs : List FRes) (Post : AVal → AHeap → Prop) : FQ := fun e t H => match e with
  | .normal | .ret => ∃ vs H', resL X.C t H rs = some vs ∧ Weak X t H (fun _ => .any) H' ∧ (H'.length < H.length → (tupV vs).lt H'.length) ∧ Post (tupV vs) H'
  | _ => False

/-- A FUNCTION BY ITS BODY. -/
theorem FCalls.body {C : Ctx} {f : Nat} {fn : Func} {c : Code} {fc : FC} {rs : List FRes} (hf : C.P.funcs[f]? = some fn) (hb : fn.body = some c) (hname : (fn.name == "runtime.NumGoroutine") = false)
    (hc : comp C.P fn.ntmps c = some fc) (hr : compRes C.P fn.ntmps fn.results.toList = some rs) {args : List AVal} {H : AHeap} {Post : AVal → AHeap → Prop} (hargs : args.length ≤ fn.ntmps)
    (h : (∀ i b, hget H i = some b → ltL H.length b.cells) → ltL H.length args → FW ⟨C, fn.ntmps, H.length⟩ fc (frA args) H (retQ ⟨C, fn.ntmps, H.length⟩ rs Post)) : FCalls C f args H Post := by
  refine ⟨⟨fn, hf, hname, by rw [hb]; rfl⟩, fun σ w cargs hrep hrel => ?_⟩
  refine calls_of_wp hf hb ?_
  have hal := hrel.length
  have hs : St C σ fn.ntmps (frA args) H { tmps := cargs ++ Array.replicate (fn.ntmps - cargs.size) undef, defers := [] } w σ := by
    refine ⟨List.prefix_rfl, hrep, ⟨by rw [Array.length_toList] at hal; simp; omega, fun i => ?_⟩, rfl⟩
    simp only [frA, Array.getD_eq_getD_getElem?]
    cases hai : args[i]? with
    | none => simp only [Option.getD_none, relV]
    | some x =>
      obtain ⟨v, hv, hr⟩ := hrel.get hai
      have hlt : i < cargs.size := by rw [← Array.length_toList]; exact (List.getElem?_eq_some_iff.1 hv).1
      rw [Array.getElem?_append_left hlt]
      have : cargs[i]? = some v := by rw [← Array.getElem?_toList]; exact hv
      rw [this]
      exact hr
  have hwf : ∀ i b, hget H i = some b → ltL H.length b.cells := by
    intro i b hb
    obtain ⟨s, cs, _, _, _, _, _, hr, _⟩ := hrep.blk i b hb
    have := hr.isLt
    rwa [hrep.len] at this
  have hlt : ltL H.length args := by have := hrel.isLt; rwa [hrep.len] at this
  refine wp_mono (h hwf hlt c hc σ hrep.len _ w σ hs) ?_
  have fin : ∀ a' w', (∃ t H1 σ1, (∃ vs H', resL C t H1 rs = some vs ∧ Weak ⟨C, fn.ntmps, H.length⟩ t H1 (fun _ => .any) H' ∧ (H'.length < H1.length → (tupV vs).lt H'.length) ∧ Post (tupV vs) H') ∧ St C σ fn.ntmps t H1 a' w' σ1) →
      a'.defers = [] ∧ ∃ v, (results fn a'.tmps).run C.P w' = .ok v w' ∧ ∃ v' av H' σ', Ending.returned v = .returned v' ∧ Post av H' ∧ σ <+: σ' ∧ relV σ' av v' ∧ Rep C σ' H' w' := by
    rintro a' w' ⟨t, H1, σ1, ⟨vs, H', hres, hweak, hvl, hpost⟩, s⟩
    obtain ⟨cv, h1, h2⟩ := run_resultsF s hr hres
    have sw := s.weak (X := ⟨C, fn.ntmps, H.length⟩) hrep.len hweak
    refine ⟨s.defers, cv, h1, cv, tupV vs, H', σ1.take H'.length, rfl, hpost, sw.pre, h2.cut (List.take_prefix _ _) ?_, sw.rep⟩
    rw [sw.rep.len]
    by_cases hq : H'.length < H1.length
    · exact hvl hq
    · have e : H'.length = H1.length := by have := hweak.len; omega
      rw [e]
      have := h2.isLt
      rwa [s.rep.len] at this
  rintro e a' w' ⟨t, H1, σ1, q, s⟩
  cases e with
  | normal => exact fin a' w' ⟨t, H1, σ1, q, s⟩
  | ret => exact fin a' w' ⟨t, H1, σ1, q, s⟩
  | _ => exact q.elim

end Go.F
