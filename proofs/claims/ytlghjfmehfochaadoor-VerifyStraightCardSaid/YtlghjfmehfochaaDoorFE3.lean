/- Each operation does what the language says: loads, stores, new blocks. -/
import Derived.Test.YtlghjfmehfochaaDoorFE2
set_option linter.all false
namespace Go.F
open Go.RowKit

/-- cells are written where nothing is frozen -/
theorem run_storeCells_fz (P : Program) (g o : Nat) (t : TypeId) (fz : Nat × Nat) : ∀ (vs : List Value) (i : Nat) (cur : Array Value) (w : World), w.heap[g]? = some (.cells cur t fz) → FzOK fz cur.size → o + i + vs.length ≤ cur.size → (∀ v ∈ vs, v.oneCell' = true) →
    (storeCells ⟨g, o, none⟩ vs i).run P w = .ok () (w.setRow g (cur.toList.take (o + i) ++ vs ++ cur.toList.drop (o + i + vs.length)).toArray)
  | [], i, cur, w, hg, _, _, _ => by
    simp only [storeCells, List.append_nil, List.length_nil, Nat.add_zero, List.take_append_drop, Array.toArray_toList]
    rw [setRow_self w g cur t fz hg]
    rfl
  | v :: rest, i, cur, w, hg, hz, hl, h1 => by
    have hi : o + i < cur.size := by simp at hl; omega
    have hcell : w.cell? ⟨g, o + i, none⟩ = some cur[o + i] := by simp [World.cell?, hg, hi]
    have hfro : w.frozen? ⟨g, o + i, none⟩ = false := by
      have := hz.not hi
      obtain ⟨lo, up⟩ := fz
      simp only [World.frozen?, hg, Bool.and_eq_false_iff, decide_eq_false_iff_not]
      by_cases c : lo ≤ o + i
      · exact .inr fun c2 => this ⟨c, c2⟩
      · exact .inl c
    have hst : (store ((⟨g, o, none⟩ : Addr).add i) v).run P w = .ok () (w.setRow g (cur.setIfInBounds (o + i) v)) := by
      rw [addr_add_loc, run_store P w _ v _ (h1 v (by simp)), hcell]
      simp [hfro, setCell_eq_setRow w g (o + i) cur t fz v hg]
    have ih := run_storeCells_fz P g o t fz rest (i + 1) (cur.setIfInBounds (o + i) v) (w.setRow g (cur.setIfInBounds (o + i) v)) (setRow_heap w g cur _ t _ hg) (by simpa using hz) (by simp at hl ⊢; omega) (fun x hx => h1 x (by simp [hx]))
    simp only [storeCells, Sem.run_bind, hst, Result.andThen_ok, ih, setRow_setRow]
    congr 3
    have e := list_seg_step cur.toList (o + i) v rest (by simp at hl ⊢; omega)
    simpa [Array.toList_setIfInBounds, Nat.add_assoc] using e

theorem setL_eq : ∀ (r l : List AVal) (off : Nat), off + r.length ≤ l.length → setL l off r = l.take off ++ r ++ l.drop (off + r.length)
  | [], l, off, _ => by simp [setL]
  | v :: r, l, off, h => by
    simp only [List.length_cons] at h
    rw [setL, setL_eq r (l.set off v) (off + 1) (by simp; omega)]
    have h1 : (l.set off v).take (off + 1) = l.take off ++ [v] := by
      rw [List.take_add_one, List.take_set_of_le (Nat.le_refl _), List.getElem?_set_self (by omega)]
      rfl
    have h2 : (l.set off v).drop (off + 1 + r.length) = l.drop (off + (v :: r).length) := by
      rw [List.drop_set_of_lt (by omega)]
      simp; congr 1; omega
    rw [h1, h2]
    simp

theorem setL_length (r l : List AVal) (off : Nat) : (setL l off r).length = l.length := by
  induction r generalizing l off with
  | nil => rfl
  | cons v r ih => rw [setL, ih]; simp

theorem cellsOf_rel {σ : Sg} {x : AVal} {l : List AVal} {v : Value} (hx : relV σ x v) (hl : cellsOf x = some l) : relL σ l v.cells.toList := by
  cases x <;> simp [cellsOf] at hl <;> subst hl
  case agg l =>
    obtain ⟨cs, rfl, hr⟩ : ∃ cs : Array Value, v = .agg cs ∧ relL σ l cs.toList := by simpa only [relV] using hx
    exact hr
  all_goals
    have hx' := hx
    simp only [relV] at hx
    have e : v.cells = #[v] := by
      first
      | (subst hx; rfl)
      | (obtain ⟨_, _, rfl⟩ := hx; rfl)
      | (obtain ⟨_, _, _, rfl, _⟩ := hx; rfl)
      | (obtain ⟨_, _, _, _, rfl, _⟩ := hx; rfl)
      | (obtain ⟨_, rfl, _⟩ := hx; rfl)
    rw [e]
    simp only [relL]
    exact ⟨v, [], rfl, hx', rfl⟩

theorem scalar_one {σ : Sg} {x : AVal} {v : Value} (hx : relV σ x v) (hs : scalar x = true) : v.oneCell' = true := by
  cases x <;> simp [scalar] at hs <;> simp only [relV] at hx <;>
    first
    | (subst hx; rfl)
    | (obtain ⟨_, _, rfl⟩ := hx; rfl)
    | (obtain ⟨_, _, _, rfl, _⟩ := hx; rfl)
    | (obtain ⟨_, _, _, _, rfl, _⟩ := hx; rfl)
    | (obtain ⟨_, rfl, _⟩ := hx; rfl)

theorem scalar_all {σ : Sg} : ∀ {l : List AVal} {vs : List Value}, relL σ l vs → l.all scalar = true → ∀ v ∈ vs, v.oneCell' = true
  | [], _, h, _, v, hv => by simp only [relL] at h; subst h; cases hv
  | a :: l, _, h, hs, v, hv => by
    simp only [relL] at h
    obtain ⟨u, us, rfl, h1, h2⟩ := h
    simp only [List.all_cons, Bool.and_eq_true] at hs
    rcases List.mem_cons.1 hv with rfl | hv
    · exact scalar_one h1 hs.1
    · exact scalar_all h2 hs.2 v hv

theorem rel_splice {σ : Sg} {cells l : List AVal} {cur vs : List Value} {off : Nat} (hr : relL σ cells (cur.take cells.length)) (hv : relL σ l vs) (hfit : off + l.length ≤ cells.length) (hc : cells.length ≤ cur.length) :
    relL σ (setL cells off l) ((cur.take off ++ vs ++ cur.drop (off + vs.length)).take (setL cells off l).length) := by
  have hvl := hv.length
  rw [setL_length, setL_eq _ _ _ hfit]
  have e : (cur.take off ++ vs ++ cur.drop (off + vs.length)).take cells.length = (cur.take cells.length).take off ++ vs ++ (cur.take cells.length).drop (off + l.length) := by
    rw [List.take_append, List.take_of_length_le (by simp; omega), List.take_take, Nat.min_eq_left (by omega), hvl]
    congr 1
    rw [List.drop_take]
    congr 1
    simp; omega
  rw [e]
  exact ((hr.take off).append hv).append (hr.drop _)

/-- what every new block has in common -/
theorem made {C : Ctx} {σ : Sg} {H : AHeap} {w : World} (h : Rep C σ H w) {p : Nat} (hp : Free σ H p) {c : Array Value} {ty : TypeId} {cells : List AVal} (hty : (C.P.info? ty).isSome = true) (hrel : relL σ cells c.toList) :
    ∃ s : SI, s.blk = w.heap.size ∧ s.csz = c.size ∧ sizeT C.P ty = some s.esz ∧ Rep C (setAt σ p s) (setAt H p ⟨cells, ty⟩) (w.alloc (.cells c ty)) ∧ sg (setAt σ p s) p = some s := by
  obtain ⟨i, hi⟩ := Option.isSome_iff_exists.1 hty
  have hlen := hrel.length
  have hl : c.size = cells.length := by rw [← Array.length_toList, hlen]
  refine ⟨⟨w.heap.size, c.size, i.size⟩, rfl, rfl, by simp [sizeT, hi], h.alloc hp (by simp [hi]) (by omega) ?_, by rw [sg_setAt (by rw [h.len]; exact hp.le), if_pos rfl]⟩
  rw [List.take_of_length_le (by rw [hlen]; exact Nat.le_refl _)]
  exact hrel

section
variable {C : Ctx} {σ : Sg} {pl : Nat} {H : AHeap} {w : World} (h : Rep C σ H w) {n : Nat} {t : Fr} {a : Act} (hF : relF σ n t a.tmps) (o : Oper)
include h hF

theorem step_load {T : TypeId} {x : Operand} {os : Option Nat} {v : AVal} (hT : optSize C.P T = some os) (hv : loadA C H os (evalO t (cO x)) = some v) (ho : o.op = .load T x) : Outc C σ pl ((execOp a.eval o).run C.P w) v H := by
  have hx := relO hF x
  generalize hg : evalO t (cO x) = g at *
  cases g <;> simp only [loadA, reduceCtorEq] at hv
  rename_i p
  obtain ⟨c, hc, e⟩ : ∃ c, conc σ p = some c ∧ a.eval x = .pointer (some c) := by simpa only [relV] using hx
  obtain ⟨d, i, hu, hi, ⟨hd, rfl⟩ | ⟨hd, rfl⟩⟩ := optSize_cases hT
  · simp only [Option.map_eq_some_iff] at hv
    obtain ⟨l, hl, rfl⟩ := hv
    obtain ⟨vs, hlen, hcell, hrel⟩ := ldn_sound h hc hl
    refine Outc.quiet h (cv := .agg vs.toArray) ?_ (by simp only [relV]; exact ⟨_, rfl, hrel⟩)
    have hr := Go.F.run_loadCells (P := C.P) hlen hcell
    simp [execOp, ho, Instr.loadAt, e, Instr.sureAddr, loadVar, run_isAgg hu, hd, sizeOf, typeInfo, hi, hr]
  · simp only at hv
    obtain ⟨cv, hcv, hrel⟩ := ldc_sound h hv hc
    refine Outc.quiet h (cv := cv) ?_ hrel
    have e0 : c.add 0 = c := by simp [Addr.add]
    rw [e0] at hcv
    simp [execOp, ho, Instr.loadAt, e, Instr.sureAddr, loadVar, run_isAgg hu, hd, hcv]

theorem step_store {T : TypeId} {p x : Operand} {k : Nat} {H' : AHeap} (hT : sizeT C.P T = some k) (hv : storeA H k (evalO t (cO p)) (evalO t (cO x)) = some H') (ho : o.op = .store T p x) :
    Outc C σ pl ((execOp a.eval o).run C.P w) .any H' := by
  have hp := relO hF p
  have hx := relO hF x
  obtain ⟨i, hi, hsz⟩ := Option.map_eq_some_iff.1 hT
  generalize hg : evalO t (cO p) = g at *
  generalize hg2 : evalO t (cO x) = g2 at *
  unfold storeA at hv
  split at hv
  · rename_i id off
    split at hv
    · rename_i b l hb hl
      split at hv
      · rename_i hcond
        obtain ⟨h1, h2, h3⟩ := hcond
        simp only [Option.some.injEq] at hv
        subst hv
        obtain ⟨c, hc, e⟩ : ∃ c, conc σ (.loc id off) = some c ∧ a.eval p = .pointer (some c) := by simpa only [relV] using hp
        obtain ⟨s, cur, hs, hN, hlt, ⟨fz, hw, hfz⟩, hcs, hle, hrel, hty⟩ := h.live hb
        simp only [conc, hs, Option.map_some, Option.some.injEq] at hc
        subst hc
        have hcl := cellsOf_rel hx hl
        have hlen := hcl.length
        have hst := run_storeCells_fz C.P s.blk off b.ty fz (a.eval x).cells.toList 0 cur w hw hfz (by rw [hlen]; simp only [← Array.length_toList] at hle ⊢; omega) (scalar_all hcl h3)
        have hsize : (a.eval x).cells.size = k := by rw [← Array.length_toList, hlen, h1]
        simp only [Nat.add_zero] at hst
        have hsp := rel_splice hrel hcl (off := off) (by omega) (by simpa using hle)
        have hlen2 := hlen
        have hrep := h.setRow hb hs (cells := setL b.cells off l) (c := (cur.toList.take off ++ (a.eval x).cells.toList ++ cur.toList.drop (off + (a.eval x).cells.toList.length)).toArray)
          (by simp only [List.size_toArray, List.length_append, List.length_take, List.length_drop, Array.length_toList] at hlen2 ⊢; omega)
          (by rw [setL_length]; simp only [List.size_toArray, List.length_append, List.length_take, List.length_drop, Array.length_toList] at hlen2 ⊢; omega)
          (by simpa only [List.toList_toArray] using hsp)
        refine ⟨.skip, undef, _, σ, ?_, .inr ⟨rfl, rfl⟩, .inl rfl, by simp only [relV], hrep⟩
        simp only [execOp, ho, Instr.storeAt, e, Instr.sureAddr, storeVar, Sem.run_bind, Sem.run_pure, Result.andThen, sizeOf, typeInfo, run_program, hi, hsz, hsize, ne_eq, not_true_eq_false, if_false, hst]
      · cases hv
    · cases hv
  · cases hv

theorem step_alloc (hp : Free σ H pl) {ty : TypeId} {i : TypeInfo} {z : Value} (hi : C.P.info? ty = some i) (hz : i.zero = some z) (ho : o.op = .alloc ty) :
    Outc C σ pl ((execOp a.eval o).run C.P w) (.ptr (.loc pl 0)) (setAt H pl ⟨z.cells.toList.map baseV, ty⟩) := by
  obtain ⟨s, hs1, hs2, hs3, hrep, hget⟩ := made h hp (c := z.cells) (ty := ty) (by simp [hi]) (relL_baseV σ _)
  refine Outc.made hrep (cv := .pointer (some ⟨w.heap.size, 0, none⟩)) ?_ ?_
  · simp [execOp, ho, Instr.alloc, zeroValue, typeInfo, hi, hz, newVar, newRow]
  · simp only [relV, conc, hget, Option.map_some]; exact ⟨_, rfl, by rw [hs1]⟩

theorem step_box (hp : Free σ H pl) {ty : TypeId} {x : Operand} {l : List AVal} (hty : (C.P.info? ty).isSome = true) (hl : cellsOf (evalO t (cO x)) = some l) (ho : o.op = .box ty x) :
    Outc C σ pl ((execOp a.eval o).run C.P w) (.ptr (.loc pl 0)) (setAt H pl ⟨l, ty⟩) := by
  obtain ⟨s, hs1, hs2, hs3, hrep, hget⟩ := made h hp (c := (a.eval x).cells) (ty := ty) hty (cellsOf_rel (relO hF x) hl)
  refine Outc.made hrep (cv := .pointer (some ⟨w.heap.size, 0, none⟩)) ?_ ?_
  · simp [execOp, ho, Instr.box, newVar, newRow]
  · simp only [relV, conc, hget, Option.map_some]; exact ⟨_, rfl, by rw [hs1]⟩

end

end Go.F
