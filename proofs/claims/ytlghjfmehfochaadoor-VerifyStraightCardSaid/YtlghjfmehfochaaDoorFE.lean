/- Each operation does what the language says: the ones without memory. -/
import Derived.Test.YtlghjfmehfochaaDoorFD
set_option linter.all false
namespace Go.F
open Go.RowKit

def relF (σ : Sg) (n : Nat) (t : Fr) (tmps : Array Value) : Prop := tmps.size = n ∧ ∀ i, relV σ (t i) (tmps.getD i undef)

theorem relF.mono {σ σ' : Sg} (h : SLe σ σ') {n : Nat} {t : Fr} {tmps : Array Value} (hF : relF σ n t tmps) : relF σ' n t tmps := ⟨hF.1, fun i => (hF.2 i).mono h⟩

theorem relF.put {σ : Sg} {n : Nat} {t : Fr} {a : Act} (hF : relF σ n t a.tmps) {d : Option Nat} (hd : d.all (fun d => d < n) = true) {v : AVal} {cv : Value} (hv : relV σ v cv) :
    relF σ n (putO t d v) (a.put d cv).tmps := by
  cases d with
  | none => exact hF
  | some d =>
    have hdn : d < a.tmps.size := by rw [hF.1]; simpa using hd
    refine ⟨by simp [Act.put, hF.1], fun i => ?_⟩
    simp only [putO, Go.F.put, Act.put]
    split
    · rename_i e; subst e
      simp [Array.getD_eq_getD_getElem?, hdn, hv]
    · rename_i e
      have := hF.2 i
      simp only [Array.getD_eq_getD_getElem?] at this ⊢
      rw [Array.getElem?_setIfInBounds_ne (Ne.symm e)]
      exact this

theorem relO {σ : Sg} {n : Nat} {t : Fr} {a : Act} (hF : relF σ n t a.tmps) (x : Operand) : relV σ (evalO t (cO x)) (a.eval x) := by
  cases x with
  | tmp i => exact hF.2 i
  | const v => exact relV_constV σ v
  | global g => simp only [cO, evalO, Act.eval, relV, conc]; exact ⟨_, rfl, rfl⟩
  | func f => simp only [cO, evalO, Act.eval, relV]; exact ⟨#[], rfl, by simp [relL]⟩

/-- what is new of the numbers: nothing, or one at p -/
def Grow (p : Nat) (σ σ' : Sg) : Prop := σ' = σ ∨ ∃ s, σ' = setAt σ p s

theorem Grow.le {p : Nat} {σ σ' : Sg} {H : AHeap} (h : Grow p σ σ') (hp : Free σ H p) (hl : σ.length = H.length) : SLe σ σ' := by
  rcases h with rfl | ⟨s, rfl⟩
  · exact SLe.refl _
  · exact hp.setAt hl s

theorem Grow.pre {p : Nat} {σ σ' : Sg} (h : Grow p σ σ') (hp : p = σ.length) : σ <+: σ' := by
  subst hp
  rcases h with rfl | ⟨s, rfl⟩
  · exact List.prefix_rfl
  · rw [setAt_len]; exact List.prefix_append _ _

def Outc (C : Ctx) (σ : Sg) (p : Nat) (r : Result Next) (v : AVal) (H' : AHeap) : Prop :=
  ∃ nx cv w' σ', r = .ok nx w' ∧ (nx = .value cv ∨ (nx = .skip ∧ cv = undef)) ∧ Grow p σ σ' ∧ relV σ' v cv ∧ Rep C σ' H' w'

theorem Outc.quiet {C : Ctx} {σ : Sg} {p : Nat} {H : AHeap} {w : World} (h : Rep C σ H w) {r : Result Next} {v : AVal} {cv : Value} (hr : r = .ok (.value cv) w) (hv : relV σ v cv) : Outc C σ p r v H :=
  ⟨_, cv, w, σ, hr, .inl rfl, .inl rfl, hv, h⟩

theorem Outc.made {C : Ctx} {σ : Sg} {p : Nat} {s : SI} {H : AHeap} {w : World} (h : Rep C (setAt σ p s) H w) {r : Result Next} {v : AVal} {cv : Value} (hr : r = .ok (.value cv) w) (hv : relV (setAt σ p s) v cv) : Outc C σ p r v H :=
  ⟨_, cv, w, _, hr, .inl rfl, .inr ⟨s, rfl⟩, hv, h⟩

theorem relV_int {σ : Sg} {k : IntKind} {n : Int} {v : Value} (h : relV σ (.int k n) v) : v = .int k n := by simpa only [relV] using h

theorem relV_asI {σ : Sg} {x : AVal} {n : Int} {v : Value} (h : relV σ x v) (hx : asI x = some n) : ∃ k, v = .int k n := by
  cases x <;> simp [asI] at hx
  subst hx
  exact ⟨_, relV_int h⟩

theorem conc_addA {σ : Sg} {a : AAd} {c : Addr} (h : conc σ a = some c) (n : Nat) : conc σ (addA a n) = some (c.add n) := by
  cases a with
  | loc id off =>
    simp only [conc, addA, Option.map_eq_some_iff] at h ⊢
    obtain ⟨s, hs, rfl⟩ := h
    exact ⟨s, hs, (addr_add_loc _ _ _).symm⟩
  | base a =>
    simp only [conc, addA, Option.some.injEq] at h ⊢
    rw [h]

/-! integers and comparisons -/
theorem run_arith (P : Program) (w : World) (op : BinOp) (xT : TypeId) (k : IntKind) (a b : Int) {v : AVal} (hop : op ≠ .shl ∧ op ≠ .shr) (h : arithI op k a b = some v) :
    ∃ cv, (binOp op xT (.int k a) (.int k b)).run P w = .ok cv w ∧ ∀ σ, relV σ v cv := by
  cases op <;> simp [arithI] at h <;> simp at hop <;>
    first
    | (subst h; exact ⟨_, by simp [binOp, Op.intArith, Op.intCmp, Op.intBits]; rfl, fun σ => by simp only [relV]⟩)
    | (obtain ⟨h0, h⟩ := h; subst h; exact ⟨_, by simp [binOp, Op.intDiv, h0]; rfl, fun σ => by simp only [relV]⟩)

theorem run_shiftI (P : Program) (w : World) (op : BinOp) (xT : TypeId) (k k' : IntKind) (a b : Int) {v : AVal} (hop : op = .shl ∨ op = .shr) (h : shiftI op k a b = some v) :
    ∃ cv, (binOp op xT (.int k a) (.int k' b)).run P w = .ok cv w ∧ ∀ σ, relV σ v cv := by
  unfold shiftI at h
  split at h
  · cases h
  · rename_i hb
    rcases hop with rfl | rfl
    · simp only [Option.some.injEq] at h; subst h
      exact ⟨_, by simp only [binOp, Op.shift, if_neg hb]; rfl, fun σ => by simp only [relV]⟩
    · simp only [Option.some.injEq] at h; subst h
      exact ⟨_, by simp only [binOp, Op.shift, if_neg hb]; rfl, fun σ => by simp only [relV]⟩

theorem run_strI (P : Program) (w : World) (op : BinOp) (xT : TypeId) (a b : ByteArray) {v : AVal} (h : strI op a b = some v) :
    ∃ cv, (binOp op xT (.string a) (.string b)).run P w = .ok cv w ∧ ∀ σ, relV σ v cv := by
  cases op <;> simp [strI] at h
  · obtain ⟨h0, h⟩ := h
    subst h
    have h1 : ¬ (((a.size + b.size : Nat) : Int) > IntKind.i64.max) := by
      have : IntKind.i64.max = 9223372036854775807 := by decide
      rw [this]; omega
    exact ⟨_, by simp only [binOp, Op.stringOp, if_neg h1]; rfl, fun σ => by simp only [relV]⟩
  · subst h; exact ⟨_, by simp [binOp, Op.stringOp]; rfl, fun σ => by simp only [relV]⟩
  · subst h; exact ⟨_, by simp [binOp, Op.stringOp]; rfl, fun σ => by simp only [relV]⟩


theorem run_eqGuard (P : Program) (w : World) (op : BinOp) (t : TypeId) (x y : Operand) (a b : Value) (h1 : ∀ cs, a ≠ .agg cs) (h2 : a ≠ .nilIface) :
    (eqGuard op t x y a b).run P w = .ok () w := by
  cases op <;> try rfl
  · cases a <;> first | rfl | exact absurd rfl h2 | exact absurd rfl (h1 _)
  · cases a <;> first | rfl | exact absurd rfl h2 | exact absurd rfl (h1 _)

theorem run_under {P : Program} {t : TypeId} {d : TypeDesc} (h : P.underlying t = some d) (w : World) : (underlying t).run P w = .ok d w := by
  simp [underlying, h]

theorem run_eqI (P : Program) (w : World) (xT : TypeId) (x y : AVal) {b : Bool} (h : eqI (clsT P xT) x y = some b) {σ : Sg} {v u : Value} (hv : relV σ x v) (hu : relV σ y u) :
    (Op.equal xT v u).run P w = .ok b w := by
  unfold Op.equal
  obtain ⟨d0, hd0⟩ : ∃ d, Op.maxDepth = d + 1 := ⟨9999, rfl⟩
  rw [hd0]
  have hcls : ∀ c, clsT P xT = c → (c ≠ .other ∧ ∀ n l, c ≠ .flat n l) → ∃ d, P.underlying xT = some d ∧ (match d, c with | .bool, .bool => True | .pointer _, .pointer => True | .slice _, .slice => True | .func _ _ _, .func => True | _, _ => False) := by
    intro c hc hne
    unfold clsT at hc
    split at hc <;> subst hc
    · exfalso
      unfold flatCls at hne
      split at hne
      · split at hne
        · exact hne.1 rfl
        · exact hne.2 _ _ rfl
      · exact hne.1 rfl
    · exact ⟨_, ‹_›, trivial⟩
    · exact ⟨_, ‹_›, trivial⟩
    · exact ⟨_, ‹_›, trivial⟩
    · exact ⟨_, ‹_›, trivial⟩
    · exact absurd rfl hne.1
  unfold eqI at h
  split at h <;> first
    | (cases h; done)
    | (split at h
       · rename_i hc
         obtain ⟨d, hd, hm⟩ := hcls _ hc ⟨by decide, by simp⟩
         cases d <;> simp at hm
         simp only [relV] at hv hu
         simp only [Option.some.injEq] at h
         subst h
         first
           | (subst hv; subst hu; simp [Op.equalIn, run_under hd]; done)
           | (obtain ⟨_, _, rfl⟩ := hv; subst hu; simp [Op.equalIn, run_under hd]; done)
           | (obtain ⟨_, _, rfl⟩ := hu; subst hv; simp [Op.equalIn, run_under hd]; done)
           | (obtain ⟨_, _, _, rfl, _⟩ := hv; subst hu; simp [Op.equalIn, run_under hd]; done)
           | (obtain ⟨_, _, _, rfl, _⟩ := hu; subst hv; simp [Op.equalIn, run_under hd]; done)
           | (obtain ⟨_, _, _, _, rfl, _⟩ := hv; subst hu; simp [Op.equalIn, run_under hd]; done)
           | (obtain ⟨_, _, _, _, rfl, _⟩ := hu; subst hv; simp [Op.equalIn, run_under hd]; done)
           | (obtain ⟨_, rfl, _⟩ := hv; subst hu; simp [Op.equalIn, run_under hd]; done)
           | (obtain ⟨_, rfl, _⟩ := hu; subst hv; simp [Op.equalIn, run_under hd]; done)
       · cases h)

theorem bin_eql (xT : TypeId) (x y : Value) (h1 : ∀ k a k' b, ¬ (x = .int k a ∧ y = .int k' b)) (h2 : ∀ a b, ¬ (x = .string a ∧ y = .string b)) (h3 : ∀ k b, x ≠ .float k b) (h4 : ∀ k a b, x ≠ .complex k a b) :
    binOp .eql xT x y = (do pure (.bool (← Op.equal xT x y))) := by
  cases x <;> cases y <;> first | rfl | exact absurd ⟨rfl, rfl⟩ (h1 _ _ _ _) | exact absurd ⟨rfl, rfl⟩ (h2 _ _) | exact absurd rfl (h3 _ _) | exact absurd rfl (h4 _ _ _)

theorem bin_neq (xT : TypeId) (x y : Value) (h1 : ∀ k a k' b, ¬ (x = .int k a ∧ y = .int k' b)) (h2 : ∀ a b, ¬ (x = .string a ∧ y = .string b)) (h3 : ∀ k b, x ≠ .float k b) (h4 : ∀ k a b, x ≠ .complex k a b) :
    binOp .neq xT x y = (do pure (.bool (!(← Op.equal xT x y)))) := by
  cases x <;> cases y <;> first | rfl | exact absurd ⟨rfl, rfl⟩ (h1 _ _ _ _) | exact absurd ⟨rfl, rfl⟩ (h2 _ _) | exact absurd rfl (h3 _ _) | exact absurd rfl (h4 _ _ _)

/-- the values that eqI knows are of none of the other kinds -/
theorem eqI_kinds {cls : Cls} {x y : AVal} {b : Bool} (h : eqI cls x y = some b) {σ : Sg} {v u : Value} (hv : relV σ x v) :
    (∀ k a k' b, ¬ (v = .int k a ∧ u = .int k' b)) ∧ (∀ a b, ¬ (v = .string a ∧ u = .string b)) ∧ (∀ k b, v ≠ .float k b) ∧ (∀ k a b, v ≠ .complex k a b) ∧ (∀ cs, v ≠ .agg cs) ∧ v ≠ .nilIface := by
  unfold eqI at h
  split at h <;> first
    | (cases h; done)
    | (simp only [relV] at hv
       first
         | (subst hv; simp; done)
         | (obtain ⟨_, _, rfl⟩ := hv; simp; done)
         | (obtain ⟨_, _, _, rfl, _⟩ := hv; simp; done)
         | (obtain ⟨_, _, _, _, rfl, _⟩ := hv; simp; done)
         | (obtain ⟨_, rfl, _⟩ := hv; simp; done))

theorem binA_other (op : BinOp) (cls : Cls) (x y : AVal) (h1 : ∀ k a k' b, ¬ (x = .int k a ∧ y = .int k' b)) (h2 : ∀ a b, ¬ (x = .str a ∧ y = .str b)) (h3 : ∀ a b, ¬ (x = .agg a ∧ y = .agg b)) :
    binA op cls x y = match op with
    | .eql => (eqI cls x y).map .bool
    | .neq => (eqI cls x y).map fun b => .bool (!b)
    | _ => none := by
  cases x <;> cases y <;> first | rfl | exact absurd ⟨rfl, rfl⟩ (h1 _ _ _ _) | exact absurd ⟨rfl, rfl⟩ (h2 _ _) | exact absurd ⟨rfl, rfl⟩ (h3 _ _)

theorem step_bin {C : Ctx} {σ : Sg} {pl : Nat} {H : AHeap} {w : World} (h : Rep C σ H w) {op : BinOp} {xT : TypeId} {x y : Operand} {yT : TypeId} {va vb v : AVal} {ρ : Operand → Value}
    (hx : relV σ va (ρ x)) (hy : relV σ vb (ρ y)) (hs : binA op (clsT C.P xT) va vb = some v) (hna : ∀ a b, ¬ (va = .agg a ∧ vb = .agg b)) (o : Oper) (ho : o.op = .binOp op xT x y yT) :
    Outc C σ pl ((execOp ρ o).run C.P w) v H := by
  have key : ∀ cv, (eqGuard op xT x y (ρ x) (ρ y)).run C.P w = .ok () w → (binOp op xT (ρ x) (ρ y)).run C.P w = .ok cv w → relV σ v cv → Outc C σ pl ((execOp ρ o).run C.P w) v H := by
    intro cv h1 h2 h3
    refine Outc.quiet h (cv := cv) ?_ h3
    simp [execOp, ho, h1, h2]
  by_cases hi : ∃ k a k' b, va = .int k a ∧ vb = .int k' b
  · obtain ⟨k, a, k', b, rfl, rfl⟩ := hi
    have ex := relV_int hx
    have ey := relV_int hy
    by_cases hsh : op = .shl ∨ op = .shr
    · obtain ⟨cv, h1, h2⟩ := run_shiftI C.P w op xT k k' a b (v := v) hsh (by rcases hsh with rfl | rfl <;> simpa [binA] using hs)
      exact key cv (run_eqGuard _ _ _ _ _ _ _ _ (by simp [ex]) (by simp [ex])) (by rw [ex, ey]; exact h1) (h2 σ)
    · have hsh' : op ≠ .shl ∧ op ≠ .shr := ⟨fun e => hsh (.inl e), fun e => hsh (.inr e)⟩
      have hs' : (if k = k' then arithI op k a b else none) = some v := by
        cases op <;> simp at hsh <;> simpa [binA] using hs
      split at hs'
      · rename_i e; subst e
        obtain ⟨cv, h1, h2⟩ := run_arith C.P w op xT k a b hsh' hs'
        exact key cv (run_eqGuard _ _ _ _ _ _ _ _ (by simp [ex]) (by simp [ex])) (by rw [ex, ey]; exact h1) (h2 σ)
      · cases hs'
  · by_cases hst : ∃ a b, va = .str a ∧ vb = .str b
    · obtain ⟨a, b, rfl, rfl⟩ := hst
      have ex : ρ x = .string a := by simpa only [relV] using hx
      have ey : ρ y = .string b := by simpa only [relV] using hy
      obtain ⟨cv, h1, h2⟩ := run_strI C.P w op xT a b (v := v) (by simpa [binA] using hs)
      exact key cv (run_eqGuard _ _ _ _ _ _ _ _ (by simp [ex]) (by simp [ex])) (by rw [ex, ey]; exact h1) (h2 σ)
    · rw [binA_other op _ va vb (fun k a k' b e => hi ⟨k, a, k', b, e⟩) (fun a b e => hst ⟨a, b, e⟩) hna] at hs
      cases op <;> simp only [reduceCtorEq] at hs
      · simp only [Option.map_eq_some_iff] at hs
        obtain ⟨bb, hb, rfl⟩ := hs
        obtain ⟨k1, k2, k3, k4, k5, k6⟩ := eqI_kinds hb (u := ρ y) hx
        have hr := run_eqI C.P w xT va vb hb hx hy
        refine key (.bool bb) (run_eqGuard _ _ _ _ _ _ _ _ k5 k6) ?_ (by simp only [relV])
        rw [bin_eql xT _ _ k1 k2 k3 k4]; simp [hr]
      · simp only [Option.map_eq_some_iff] at hs
        obtain ⟨bb, hb, rfl⟩ := hs
        obtain ⟨k1, k2, k3, k4, k5, k6⟩ := eqI_kinds hb (u := ρ y) hx
        have hr := run_eqI C.P w xT va vb hb hx hy
        refine key (.bool (!bb)) (run_eqGuard _ _ _ _ _ _ _ _ k5 k6) ?_ (by simp only [relV])
        rw [bin_neq xT _ _ k1 k2 k3 k4]; simp [hr]

end Go.F
