/- Each operation does what the language says: literals, slices. -/
import Derived.Test.YtlghjfmehfochaaDoorFE3
set_option linter.all false
namespace Go.F
open Go.RowKit

theorem fill_one {σ : Sg} : ∀ {la : List AVal} {vs : List Value} {l : List AVal} {cs : Array Value} {off k : Nat}, relL σ la vs → relL σ l cs.toList →
    relL σ (setL l (off + k) la) ((vs.zipIdx k).foldl (fun cs (c, j) => cs.setIfInBounds (off + j) c) cs).toList
  | [], vs, l, cs, off, k, hv, hl => by simp only [relL] at hv; subst hv; simpa [setL] using hl
  | x :: la, vs, l, cs, off, k, hv, hl => by
    simp only [relL] at hv
    obtain ⟨v, vs', rfl, h1, h2⟩ := hv
    simp only [setL, List.zipIdx_cons, List.foldl_cons]
    have := fill_one (off := off) (k := k + 1) h2 (l := l.set (off + k) x) (cs := cs.setIfInBounds (off + k) v) (by rw [Array.toList_setIfInBounds]; exact hl.set _ h1)
    rwa [← Nat.add_assoc] at this

theorem fillA_length : ∀ {ps : List (Nat × Nat × AVal)} {zero out : List AVal}, fillA zero ps = some out → out.length = zero.length
  | [], zero, out, h => by simp only [fillA, Option.some.injEq] at h; rw [h]
  | (off, size, v) :: ps, zero, out, h => by
    simp only [fillA] at h
    split at h
    · split at h
      · rw [fillA_length h, setL_length]
      · cases h
    · cases h

theorem fill_sound {σ : Sg} {n : Nat} {t : Fr} {a : Act} (hF : relF σ n t a.tmps) {place : Nat → Option (Nat × Nat)} : ∀ {parts : List (Nat × Operand)} {l : List (Nat × Nat × FOpd)} {zero out : List AVal} {zc : Array Value},
    partsT place parts = some l → fillA zero (evalP t l) = some out → relL σ zero zc.toList → ∃ oc, Instr.fill place zc (parts.map fun p => (p.1, a.eval p.2)) = some oc ∧ relL σ out oc.toList
  | [], l, zero, out, zc, hp, hf, hz => by
    simp only [partsT, Option.some.injEq] at hp; subst hp
    simp only [evalP, List.map_nil, fillA, Option.some.injEq] at hf; subst hf
    exact ⟨zc, rfl, hz⟩
  | (i, x) :: parts, l, zero, out, zc, hp, hf, hz => by
    simp only [partsT] at hp
    split at hp
    · rename_i off size l' hpl hpr
      simp only [Option.some.injEq] at hp; subst hp
      simp only [evalP, List.map_cons, fillA] at hf
      split at hf
      · rename_i la hla
        split at hf
        · rename_i hc
          have hcl := cellsOf_rel (relO hF x) hla
          have hlen := hcl.length
          have hzl := hz.length
          rw [Array.length_toList] at hlen hzl
          have h1 := fill_one (off := off) (k := 0) hcl hz
          rw [Nat.add_zero] at h1
          obtain ⟨oc, ho, hr⟩ := fill_sound (zero := setL zero off la) (zc := ((a.eval x).cells.zipIdx.foldl (fun cs (c, j) => cs.setIfInBounds (off + j) c) zc)) hF hpr hf (by
            rw [← Array.foldl_toList, Array.toList_zipIdx]; exact h1)
          refine ⟨oc, ?_, hr⟩
          simp only [List.map_cons, Instr.fill, hpl]
          rw [if_neg]
          · exact ho
          · simp; omega
        · cases hf
      · cases hf
    · cases hp

section
variable {C : Ctx} {σ : Sg} {pl : Nat} {H : AHeap} {w : World} (h : Rep C σ H w) {n : Nat} {t : Fr} {a : Act} (hF : relF σ n t a.tmps) (o : Oper)
include h hF

theorem step_build {T : TypeId} {parts : Array (Nat × Operand)} {l : List (Nat × Nat × FOpd)} {zero out : List AVal} (hc : compOp C.P (.build T parts) = some (.build zero l)) (hf : fillA zero (evalP t l) = some out) (ho : o.op = .build T parts) :
    Outc C σ pl ((execOp a.eval o).run C.P w) (.agg out) H := by
  have hb : ∃ oc, C.P.built T (parts.map fun (i, x) => (i, a.eval x)).toList = some oc ∧ relL σ out oc.toList := by
    simp only [compOp] at hc
    unfold Program.built
    split at hc
    · rename_i i fields hi hu
      split at hc
      · rename_i z places hz hp
        simp only [Option.map_eq_some_iff, FOp.build.injEq] at hc
        obtain ⟨l', hl', rfl, rfl⟩ := hc
        obtain ⟨oc, h1, h2⟩ := fill_sound hF hl' hf (relL_baseV σ z.cells.toList)
        refine ⟨oc, ?_, h2⟩
        simp only [hi, hu, hz, hp]
        rw [Array.toList_map]
        exact h1
      · cases hc
    · rename_i i _ e hi hu
      split at hc
      · rename_i z ie hz hp
        simp only [Option.map_eq_some_iff, FOp.build.injEq] at hc
        obtain ⟨l', hl', rfl, rfl⟩ := hc
        obtain ⟨oc, h1, h2⟩ := fill_sound hF hl' hf (relL_baseV σ z.cells.toList)
        refine ⟨oc, ?_, h2⟩
        simp only [hi, hu, hz, hp]
        rw [Array.toList_map]
        exact h1
      · cases hc
    · cases hc
  obtain ⟨oc, h1, h2⟩ := hb
  refine Outc.quiet h (cv := .agg oc) ?_ (by simp only [relV]; exact ⟨_, rfl, h2⟩)
  have := run_build w T _ oc h1
  simp only [execOp, ho, Sem.run_bind, this, Result.andThen, Sem.run_pure]

theorem step_bslice (hp : Free σ H pl) {T : TypeId} {len : Nat} {parts : Array (Nat × Operand)} {ty esz : Nat} {l : List (Nat × Nat × FOpd)} {zero out : List AVal} (hc : compOp C.P (.buildSlice T len parts) = some (.bslice ty esz zero len l))
    (hf : fillA zero (evalP t l) = some out) (ho : o.op = .buildSlice T len parts) : Outc C σ pl ((execOp a.eval o).run C.P w) (.arr pl len) (setAt H pl ⟨out, ty⟩) := by
  simp only [compOp] at hc
  split at hc
  · rename_i elem hu
    split at hc
    · rename_i i hi
      split at hc
      · rename_i z hz
        split at hc
        · rename_i hcond
          obtain ⟨h0, h1, h2⟩ := hcond
          simp only [Option.map_eq_some_iff, FOp.bslice.injEq] at hc
          obtain ⟨l', hl', rfl, rfl, rfl, _, rfl⟩ := hc
          obtain ⟨oc, hoc, hr⟩ := fill_sound hF hl' hf (relL_baseV σ _)
          have hs1 : oc.size = len * i.size := by
            have e1 := hr.length
            rw [fillA_length hf] at e1
            simpa using e1
          obtain ⟨s, e1, e2, e3, hrep, hget⟩ := made h hp (c := oc) (ty := elem) (by simp [hi]) hr
          have e4 : i.size = s.esz := by simpa [sizeT, hi] using e3
          refine Outc.made hrep (cv := .slice (some ⟨w.heap.size, 0, none⟩) len len) ?_ ?_
          · have hl1 : ¬ (len * i.size > 2 ^ 24) := by omega
            simp only [execOp, ho, Instr.buildSlice, Sem.run_bind, run_under hu, Result.andThen, sizeOf, typeInfo, run_program, hi, Sem.run_pure]
            by_cases e0 : len * i.size = 0
            · have hr0 : ∀ f : Nat → Value, (Array.range 0).map f = #[] := fun f => by apply Array.ext'; simp
              rw [e0, hr0] at hoc
              simp [e0, hr0, hoc, newRow]
            · simp [e0, hl1, zeroValue, typeInfo, hi, hz, hoc, newRow]
          · simp only [relV]
            exact ⟨s, len, hget, by rw [e1], Nat.le_refl _, by rw [← e4, e2, hs1]⟩
        · cases hc
      · cases hc
    · cases hc
  · cases hc

end

end Go.F
