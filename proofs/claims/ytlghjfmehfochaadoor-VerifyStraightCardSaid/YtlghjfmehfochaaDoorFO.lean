/- What a function reads: data behind values; a caller's heap taken as memory that was there before. -/
import Derived.Test.YtlghjfmehfochaaDoorFN
set_option linter.all false
namespace Go.F
open Go.RowKit

/-- data: a plain value; a slice of rows of cells -/
inductive Dat where
  | sc (v : AVal)
  | sl (esz : Nat) (es : List (List Dat))

/-- plain values: without addresses -/
def plainV : AVal → Bool
  | .bool _ => true
  | .int _ _ => true
  | .str _ => true
  | _ => false

mutual
def Rd (C : Ctx) (H : AHeap) : Dat → AVal → Prop
  | .sc v, x => x = v ∧ plainV v = true
  | .sl esz es, x => match x with
    | .nils => es = []
    | .arr id n => n = es.length ∧ RdEs C H (.loc id 0) 0 esz es
    | .slc a n => n = es.length ∧ RdEs C H a 0 esz es
    | _ => False
def RdEs (C : Ctx) (H : AHeap) (a : AAd) (j esz : Nat) : List (List Dat) → Prop
  | [] => True
  | e :: r => e.length = esz ∧ RdCs C H a j e ∧ RdEs C H a (j + esz) esz r
def RdCs (C : Ctx) (H : AHeap) (a : AAd) (j : Nat) : List Dat → Prop
  | [] => True
  | d :: r => (∃ x, ldc C H a j = some x ∧ Rd C H d x) ∧ RdCs C H a (j + 1) r
end

def RdVs (C : Ctx) (H : AHeap) : List Dat → List AVal → Prop
  | [], [] => True
  | d :: r, x :: xs => Rd C H d x ∧ RdVs C H r xs
  | _, _ => False

inductive Arg where
  | one (d : Dat)
  | agg (l : List Dat)

def RdA (C : Ctx) (H : AHeap) : Arg → AVal → Prop
  | .one d, x => Rd C H d x
  | .agg l, x => ∃ xs, x = .agg xs ∧ RdVs C H l xs

def RdAs (C : Ctx) (H : AHeap) : List Arg → List AVal → Prop
  | [], [] => True
  | d :: r, x :: xs => RdA C H d x ∧ RdAs C H r xs
  | _, _ => False

/-- all that there is, as memory that was there before -/
def Ctx.all (P : Program) (w : World) : Ctx := ⟨P, w.heap.size, w, Nat.le_refl _⟩

theorem cell_lt {w : World} {a : Addr} {v : Value} (h : w.cell? a = some v) : a.block < w.heap.size := by
  unfold World.cell? at h
  split at h
  · rename_i hb
    exact (Array.getElem?_eq_some_iff.1 hb).1
  · cases h

theorem all_B {P : Program} {w : World} {a : Addr} {v : Value} (h : w.cell? a = some v) : (Ctx.all P w).B a = some (baseV v) := by
  unfold Ctx.B Ctx.all
  rw [if_pos (cell_lt h), h]; rfl

theorem plain_rel {σ : Sg} {v : AVal} {x : Value} (hp : plainV v = true) (h : relV σ v x) : baseV x = v ∧ constV x = v := by
  cases v <;> simp only [plainV, Bool.false_eq_true] at hp <;> simp only [relV] at h <;> subst h <;> exact ⟨rfl, rfl⟩

mutual
theorem Rd.all {C : Ctx} {σ : Sg} {H : AHeap} {w : World} (h : Rep C σ H w) : ∀ {d : Dat} {x : AVal} {v : Value}, Rd C H d x → relV σ x v → Rd (Ctx.all C.P w) [] d (baseV v)
  | .sc v, x, cv, hr, hx => by
    simp only [Rd] at hr ⊢
    obtain ⟨rfl, hp⟩ := hr
    exact ⟨(plain_rel hp hx).1, hp⟩
  | .sl esz es, x, cv, hr, hx => by
    simp only [Rd] at hr
    split at hr
    · simp only [relV] at hx
      subst hx; subst hr
      simp only [baseV, Rd]
    · rename_i id n
      obtain ⟨s, cap, hs, rfl, hle, _⟩ : ∃ (s : SI) (cap : Nat), sg σ id = some s ∧ cv = .slice (some ⟨s.blk, 0, none⟩) n cap ∧ n ≤ cap ∧ cap * s.esz = s.csz := by simpa only [relV] using hx
      simp only [baseV, if_pos hle, Rd]
      exact ⟨hr.1, RdEs.all h hr.2 (by simp [conc, hs])⟩
    · rename_i a n
      obtain ⟨c, c', cap, hc, rfl, hle, hcc⟩ : ∃ c c' cap, conc σ a = some c ∧ cv = .slice (some c') n cap ∧ n ≤ cap ∧ (0 < n → c' = c) := by simpa only [relV] using hx
      simp only [baseV, if_pos hle, Rd]
      refine ⟨hr.1, ?_⟩
      cases es with
      | nil => simp only [RdEs]
      | cons e r =>
        have : 0 < n := by rw [hr.1]; simp
        rw [hcc this]
        exact RdEs.all h hr.2 hc
    · exact hr.elim
theorem RdEs.all {C : Ctx} {σ : Sg} {H : AHeap} {w : World} (h : Rep C σ H w) : ∀ {es : List (List Dat)} {a : AAd} {j esz : Nat} {c : Addr}, RdEs C H a j esz es → conc σ a = some c → RdEs (Ctx.all C.P w) [] (.base c) j esz es
  | [], _, _, _, _, _, _ => by simp only [RdEs]
  | e :: r, a, j, esz, c, hr, hc => by
    simp only [RdEs] at hr ⊢
    exact ⟨hr.1, RdCs.all h hr.2.1 hc, RdEs.all h hr.2.2 hc⟩
theorem RdCs.all {C : Ctx} {σ : Sg} {H : AHeap} {w : World} (h : Rep C σ H w) : ∀ {ds : List Dat} {a : AAd} {j : Nat} {c : Addr}, RdCs C H a j ds → conc σ a = some c → RdCs (Ctx.all C.P w) [] (.base c) j ds
  | [], _, _, _, _, _ => by simp only [RdCs]
  | d :: r, a, j, c, hr, hc => by
    simp only [RdCs] at hr ⊢
    obtain ⟨⟨x, hx, hd⟩, hr⟩ := hr
    obtain ⟨v, hv, hxv⟩ := ldc_sound h hx hc
    exact ⟨⟨baseV v, by simp only [ldc]; exact all_B hv, Rd.all h hd hxv⟩, RdCs.all h hr hc⟩
end

theorem RdVs.all {C : Ctx} {σ : Sg} {H : AHeap} {w : World} (h : Rep C σ H w) : ∀ {ds : List Dat} {xs : List AVal} {vs : List Value}, RdVs C H ds xs → relL σ xs vs → RdVs (Ctx.all C.P w) [] ds (vs.map baseV)
  | [], [], vs, _, hv => by simp only [relL] at hv; subst hv; simp only [List.map_nil, RdVs]
  | d :: r, x :: xs, vs, hr, hv => by
    simp only [relL] at hv
    obtain ⟨v, vs', rfl, h1, h2⟩ := hv
    simp only [RdVs] at hr
    simp only [List.map_cons, RdVs]
    exact ⟨Rd.all h hr.1 h1, RdVs.all h hr.2 h2⟩
  | [], _ :: _, _, hr, _ => by simp only [RdVs] at hr
  | _ :: _, [], _, hr, _ => by simp only [RdVs] at hr

theorem Rd.const {C : Ctx} {d : Dat} {v : Value} (h : Rd C [] d (baseV v)) : Rd C [] d (constV v) := by
  unfold constV
  split
  · cases d with
    | sc x => simp only [Rd, baseV] at h; obtain ⟨rfl, hp⟩ := h; simp [plainV] at hp
    | sl e es => simp only [Rd, baseV] at h
  · cases d with
    | sc x => simp only [Rd, baseV] at h; obtain ⟨rfl, hp⟩ := h; simp [plainV] at hp
    | sl e es => simp only [Rd, baseV] at h
  · exact h

theorem RdA.all {C : Ctx} {σ : Sg} {H : AHeap} {w : World} (h : Rep C σ H w) {d : Arg} {x : AVal} {v : Value} (hr : RdA C H d x) (hx : relV σ x v) : RdA (Ctx.all C.P w) [] d (constV v) := by
  cases d with
  | one d => exact Rd.const (Rd.all h hr hx)
  | agg l =>
    obtain ⟨xs, rfl, hr⟩ := hr
    simp only [relV] at hx
    obtain ⟨cs, rfl, hx⟩ := hx
    exact ⟨_, rfl, RdVs.all h hr hx⟩

theorem RdAs.all {C : Ctx} {σ : Sg} {H : AHeap} {w : World} (h : Rep C σ H w) : ∀ {ds : List Arg} {xs : List AVal} {vs : List Value}, RdAs C H ds xs → relL σ xs vs → RdAs (Ctx.all C.P w) [] ds (vs.map constV)
  | [], [], vs, _, hv => by simp only [relL] at hv; subst hv; simp only [List.map_nil, RdAs]
  | d :: r, x :: xs, vs, hr, hv => by
    simp only [relL] at hv
    obtain ⟨v, vs', rfl, h1, h2⟩ := hv
    simp only [RdAs] at hr
    simp only [List.map_cons, RdAs]
    exact ⟨RdA.all h hr.1 h1, RdAs.all h hr.2 h2⟩
  | [], _ :: _, _, hr, _ => by simp only [RdAs] at hr
  | _ :: _, [], _, hr, _ => by simp only [RdAs] at hr

theorem relL_constV (σ : Sg) (l : List Value) : relL σ (l.map constV) l := by
  induction l with
  | nil => simp [relL]
  | cons v l ih => simp only [List.map, relL]; exact ⟨v, l, rfl, relV_constV σ v, ih⟩

/-- what was there stays as it was -/
theorem Rep.over {C : Ctx} {σ : Sg} {H : AHeap} {w w' : World} (h : Rep C σ H w) (hb : Below w.heap.size w w') : Rep C σ H w' := by
  refine ⟨h.len, ?_, h.inj, h.below.trans ⟨hb.os, hb.tape, hb.output, hb.size, fun k hk => hb.block k (Nat.lt_of_lt_of_le hk h.nle)⟩⟩
  intro i b hi
  obtain ⟨s, c, h1, h2, hlt, ⟨fz, h3, h4⟩, r⟩ := h.live hi
  exact ⟨s, c, h1, h2, ⟨fz, by rw [hb.block _ hlt]; exact h3, h4⟩, r⟩

/-- C' knows what C knows -/
def Ctx.le (C C' : Ctx) : Prop := C'.P = C.P ∧ ∀ a x, C.B a = some x → C'.B a = some x

theorem Ctx.le_refl (C : Ctx) : C.le C := ⟨rfl, fun _ _ h => h⟩

theorem Rep.le_all {C : Ctx} {σ : Sg} {H : AHeap} {w : World} (h : Rep C σ H w) : C.le (Ctx.all C.P w) := by
  refine ⟨rfl, fun a x hx => ?_⟩
  unfold Ctx.B at hx
  split at hx
  · rename_i hlt
    simp only [Option.map_eq_some_iff] at hx
    obtain ⟨v, hv, rfl⟩ := hx
    exact all_B (by rw [h.below.cell hlt]; exact hv)
  · cases hx

/-- A CALL THAT ONLY READS what it is given, and answers plainly. -/
theorem FCalls.asBase {C : Ctx} {f : Nat} {args : List AVal} {H : AHeap} {ds : List Arg} {Post : AVal → Prop} (hcal : Callable C.P f) (hd : RdAs C H ds args)
    (h : ∀ (C' : Ctx) (args' : List AVal), C.le C' → RdAs C' [] ds args' → FCalls C' f args' [] fun v _ => Post v) (hp : ∀ v, Post v → v.lt 0) : FCalls C f args H fun v H' => Post v ∧ H' = H := by
  refine ⟨hcal, fun σ w cargs hrep hrel => ?_⟩
  refine ((h (Ctx.all C.P w) (cargs.toList.map constV) hrep.le_all (RdAs.all hrep hd hrel)).2 [] w cargs (Rep.start _) (relL_constV _ _)).mono ?_
  rintro e w' ⟨v, av, H1, σ1, rfl, hpost, _, hv, hrep1⟩
  have hv0 := hv.cut (σ := []) take_zero_pre (hp av hpost)
  exact ⟨v, av, H, σ, rfl, ⟨hpost, rfl⟩, List.prefix_rfl, hv0.mono (SLe.pre take_zero_pre), hrep.over hrep1.below⟩

/-! what reading gives -/
theorem Rd.len {C : Ctx} {H : AHeap} {esz : Nat} {es : List (List Dat)} {x : AVal} (h : Rd C H (.sl esz es) x) : lenV false x = some (.int .i64 es.length) := by
  simp only [Rd] at h
  split at h
  · subst h; rfl
  · rw [← h.1]; rfl
  · rw [← h.1]; rfl
  · exact h.elim

/-- cells of the memory that was there before -/
def RdB (C : Ctx) (c : Addr) (ds : List Dat) : Prop := ∀ (k : Nat) (d : Dat), ds[k]? = some d → ∃ y, C.B (c.add k) = some y ∧ Rd C [] d y

theorem RdCs.b {C : Ctx} {c : Addr} : ∀ {ds : List Dat} {j : Nat}, RdCs C [] (.base c) j ds → RdB C (c.add j) ds
  | [], _, _ => fun k d hk => by simp at hk
  | e :: r, j, h => by
    simp only [RdCs, ldc] at h
    obtain ⟨⟨x, hx, hd⟩, hr⟩ := h
    intro k d hk
    cases k with
    | zero =>
      simp only [List.getElem?_cons_zero, Option.some.injEq] at hk
      subst hk
      exact ⟨x, by rw [addr_add_add]; exact hx, hd⟩
    | succ k =>
      obtain ⟨y, hy, hdy⟩ := RdCs.b hr k d (by simpa using hk)
      exact ⟨y, by rw [addr_add_add] at hy ⊢; rw [show j + (k + 1) = j + 1 + k by omega]; exact hy, hdy⟩

theorem RdEs.get {C : Ctx} {H : AHeap} {a : AAd} {esz : Nat} : ∀ {es : List (List Dat)} {j i : Nat} {e : List Dat}, RdEs C H a j esz es → es[i]? = some e → e.length = esz ∧ RdCs C H a (j + i * esz) e
  | [], _, i, _, _, h => by simp at h
  | f :: r, j, i, e, hr, h => by
    simp only [RdEs] at hr
    cases i with
    | zero =>
      simp only [List.getElem?_cons_zero, Option.some.injEq] at h
      subst h
      exact ⟨hr.1, by simpa using hr.2.1⟩
    | succ i =>
      have := RdEs.get hr.2.2 (by simpa using h)
      exact ⟨this.1, by rw [show j + (i + 1) * esz = j + esz + i * esz by rw [Nat.add_mul]; omega]; exact this.2⟩

theorem Rd.row {C : Ctx} {esz : Nat} {es : List (List Dat)} {x : AVal} (h : Rd C [] (.sl esz es) x) (h0 : 0 < esz) {i : Nat} {e : List Dat} (hi : es[i]? = some e) :
    ∃ c, iaddrO esz x (.int .i64 i) = some (.ptr (.base c)) ∧ RdB C c e := by
  have hlt := (List.getElem?_eq_some_iff.1 hi).1
  simp only [Rd] at h
  split at h
  · subst h; simp at hi
  · rename_i id n
    obtain ⟨h1, h2⟩ := RdEs.get h.2 hi
    cases e with
    | nil => simp at h1; omega
    | cons d r => simp only [RdCs, ldc, hget_nil, Option.bind_none, reduceCtorEq, false_and, exists_false] at h2
  · rename_i a n
    obtain ⟨h1, h2⟩ := RdEs.get h.2 hi
    cases a with
    | loc id o =>
      cases e with
      | nil => simp at h1; omega
      | cons d r => simp only [RdCs, ldc, hget_nil, Option.bind_none, reduceCtorEq, false_and, exists_false] at h2
    | base c =>
      refine ⟨c.add (i * esz), ?_, by simpa using h2.b⟩
      rw [idx_slc esz (.base c) n .i64 i (by omega) (by omega)]
      simp [addA]
  · exact h.elim

theorem RdB.sc {C : Ctx} {c : Addr} {ds : List Dat} (h : RdB C c ds) {k : Nat} {v : AVal} (hk : ds[k]? = some (.sc v)) : C.B (c.add k) = some v := by
  obtain ⟨y, hy, hd⟩ := h k _ hk
  simp only [Rd] at hd
  rw [hy, hd.1]

end Go.F
