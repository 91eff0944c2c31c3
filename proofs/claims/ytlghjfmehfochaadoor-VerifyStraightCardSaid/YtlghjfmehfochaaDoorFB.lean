/- The abstract heap and the real one. -/
import Derived.Test.YtlghjfmehfochaaDoorFA
set_option linter.all false
namespace Go.F
open Go.RowKit

structure Ctx where
  P : Program
  N : Nat
  w0 : World
  hN : N ≤ w0.heap.size

/-- What a cell of the memory that was there before holds. -/
def Ctx.B (C : Ctx) (a : Addr) : Option AVal := if a.block < C.N then (C.w0.cell? a).map baseV else none

structure ABlk where
  cells : List AVal
  ty : TypeId

abbrev AHeap := List (Option ABlk)

def hget (H : AHeap) (id : Nat) : Option ABlk := (H[id]?).join

theorem hget_eq {H : AHeap} {id : Nat} {b : ABlk} : hget H id = some b ↔ H[id]? = some (some b) := by
  unfold hget
  cases h : H[id]? with
  | none => simp
  | some x => cases x <;> simp

/-- what is frozen lies behind the cells -/
def FzOK (fz : Nat × Nat) (n : Nat) : Prop := fz.1 = fz.2 ∨ n ≤ fz.1

theorem FzOK.zero (n : Nat) : FzOK (0, 0) n := .inl rfl

theorem FzOK.not {fz : Nat × Nat} {n : Nat} (h : FzOK fz n) {j : Nat} (hj : j < n) : ¬ (fz.1 ≤ j ∧ j < fz.2) := by
  rcases h with e | e <;> omega

structure Rep (C : Ctx) (σ : Sg) (H : AHeap) (w : World) : Prop where
  len : σ.length = H.length
  blk : ∀ i b, hget H i = some b → ∃ s c, sg σ i = some s ∧ C.N ≤ s.blk ∧ (∃ fz, w.heap[s.blk]? = some (.cells c b.ty fz) ∧ FzOK fz c.size) ∧ c.size = s.csz ∧
    b.cells.length ≤ c.size ∧ relL σ b.cells (c.toList.take b.cells.length) ∧ (C.P.info? b.ty).map (·.size) = some s.esz
  inj : ∀ i j bi bj si sj, hget H i = some bi → hget H j = some bj → sg σ i = some si → sg σ j = some sj → si.blk = sj.blk → i = j
  below : Below C.N C.w0 w

theorem Rep.nle {C : Ctx} {σ : Sg} {H : AHeap} {w : World} (h : Rep C σ H w) : C.N ≤ w.heap.size := Nat.le_trans C.hN h.below.size

/-- a draw changes nothing -/
theorem Rep.heap {C : Ctx} {σ : Sg} {H : AHeap} {w w' : World} (h : Rep C σ H w) (hh : w'.heap = w.heap) (ho : w'.os = w.os) (ht : w'.tape = w.tape) (hu : w'.output = w.output) : Rep C σ H w' := by
  refine ⟨h.len, ?_, h.inj, ?_⟩
  · intro i b hb; rw [hh]; exact h.blk i b hb
  · exact ⟨ho.trans h.below.os, ht.trans h.below.tape, hu.trans h.below.output, by rw [hh]; exact h.below.size, fun k hk => by rw [hh]; exact h.below.block k hk⟩

theorem addr_add_loc (b o j : Nat) : (⟨b, o, none⟩ : Addr).add j = ⟨b, o + j, none⟩ := by
  unfold Addr.add; split <;> simp_all

theorem addr_add_add (a : Addr) (i j : Nat) : (a.add i).add j = a.add (i + j) := by
  unfold Addr.add
  by_cases hi : i = 0 <;> by_cases hj : j = 0 <;> simp [hi, hj] <;> omega

theorem addr_add_block (a : Addr) (i : Nat) : (a.add i).block = a.block := by
  unfold Addr.add; split <;> rfl

/-- The cell at a + j. -/
def ldc (C : Ctx) (H : AHeap) (a : AAd) (j : Nat) : Option AVal :=
  match a with
  | .loc id off => (hget H id).bind fun b => b.cells[off + j]?
  | .base a => C.B (a.add j)

theorem ldc_sound {C : Ctx} {σ : Sg} {H : AHeap} {w : World} (h : Rep C σ H w) {a : AAd} {j : Nat} {av : AVal} (hl : ldc C H a j = some av) {c : Addr} (hc : conc σ a = some c) :
    ∃ v, w.cell? (c.add j) = some v ∧ relV σ av v := by
  cases a with
  | loc id off =>
    simp only [ldc, Option.bind_eq_some_iff] at hl
    obtain ⟨b, hb, hget⟩ := hl
    obtain ⟨s, cs, hs, _, ⟨_, hw, _⟩, hsz, hlen, hrel, _⟩ := h.blk id b hb
    simp only [conc, hs, Option.map_some, Option.some.injEq] at hc
    subst hc
    obtain ⟨v, hv, hr⟩ := hrel.get hget
    refine ⟨v, ?_, hr⟩
    rw [addr_add_loc]
    simp only [World.cell?, hw]
    rw [List.getElem?_take] at hv
    split at hv
    · simpa using hv
    · cases hv
  | base a =>
    simp only [conc, Option.some.injEq] at hc
    subst hc
    simp only [ldc, Ctx.B] at hl
    split at hl
    · rename_i hlt
      simp only [Option.map_eq_some_iff] at hl
      obtain ⟨v, hv, rfl⟩ := hl
      exact ⟨v, by rw [h.below.cell hlt]; exact hv, relV_baseV σ v⟩
    · cases hl

/-- n cells from a + j on. -/
def ldn (C : Ctx) (H : AHeap) (a : AAd) : (j n : Nat) → Option (List AVal)
  | _, 0 => some []
  | j, n + 1 => match ldc C H a j with
    | some v => match ldn C H a (j + 1) n with
      | some l => some (v :: l)
      | none => none
    | none => none

theorem ldn_sound {C : Ctx} {σ : Sg} {H : AHeap} {w : World} (h : Rep C σ H w) {a : AAd} {c : Addr} (hc : conc σ a = some c) :
    ∀ {n j : Nat} {l : List AVal}, ldn C H a j n = some l → ∃ vs, vs.length = n ∧ (∀ i u, vs[i]? = some u → w.cell? (c.add (j + i)) = some u) ∧ relL σ l vs
  | 0, j, l, hl => by simp only [ldn, Option.some.injEq] at hl; subst hl; exact ⟨[], rfl, by simp, by simp [relL]⟩
  | n + 1, j, l, hl => by
    simp only [ldn] at hl
    split at hl
    · rename_i v hv
      split at hl
      · rename_i l' hl'
        simp only [Option.some.injEq] at hl
        subst hl
        obtain ⟨u, hu, hr⟩ := ldc_sound h hv hc
        obtain ⟨vs, hlen, hcell, hrl⟩ := ldn_sound h hc hl'
        refine ⟨u :: vs, by simp [hlen], ?_, by simp only [relL]; exact ⟨u, vs, rfl, hr, hrl⟩⟩
        intro i x hx
        cases i with
        | zero => simp at hx; subst hx; exact hu
        | succ i =>
          have := hcell i x (by simpa using hx)
          rw [show j + (i + 1) = j + 1 + i by omega]; exact this
      · cases hl
    · cases hl

/-- the real loads -/
theorem run_loadCellsFrom (P : Program) (w : World) (a : Addr) : ∀ (vs : List Value) (j : Nat) (acc : Array Value), (∀ i u, vs[i]? = some u → w.cell? (a.add (j + i)) = some u) →
    (loadCellsFrom a j vs.length acc).run P w = .ok (acc ++ vs.toArray) w
  | [], j, acc, _ => by simp [loadCellsFrom, pure, Sem.run]
  | v :: vs, j, acc, h => by
    have h0 := h 0 v rfl
    have ih := run_loadCellsFrom P w a vs (j + 1) (acc.push v) (fun i u hu => by rw [show j + 1 + i = j + (i + 1) by omega]; exact h (i + 1) u (by simpa using hu))
    simp only [Nat.add_zero] at h0
    simp only [List.length_cons, loadCellsFrom, load, bind, Sem.bind, Sem.run, h0]
    rw [ih]
    simp

theorem run_loadCells {P : Program} {w : World} {a : Addr} {vs : List Value} {n : Nat} (hn : vs.length = n) (h : ∀ i u, vs[i]? = some u → w.cell? (a.add (0 + i)) = some u) :
    (loadCells a n).run P w = .ok vs.toArray w := by
  subst hn
  simpa [loadCells] using run_loadCellsFrom P w a vs 0 #[] h

end Go.F
