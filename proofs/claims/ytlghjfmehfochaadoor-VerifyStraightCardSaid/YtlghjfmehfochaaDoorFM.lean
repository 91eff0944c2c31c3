/- Numbers anew: only some blocks are kept, under new numbers. -/
import Derived.Test.YtlghjfmehfochaaDoorFL
set_option linter.all false
namespace Go.F
open Go.RowKit

def renA (keep : List Nat) : AAd → Option AAd
  | .loc id off => (keep.idxOf? id).map fun j => .loc j off
  | .base a => some (.base a)

mutual
def renV (keep : List Nat) : AVal → AVal
  | .any => .any
  | .bool b => .bool b
  | .int k n => .int k n
  | .str s => .str s
  | .ptr a => match renA keep a with | some a => .ptr a | none => .any
  | .nilp => .nilp
  | .arr id n => match keep.idxOf? id with | some j => .arr j n | none => .any
  | .slc a n => match renA keep a with | some a => .slc a n | none => .any
  | .nils => .nils
  | .fn f caps => .fn f (renL keep caps)
  | .mth f first => .mth f (renL keep first)
  | .nilf => .nilf
  | .agg l => .agg (renL keep l)
  | .tup l => .tup (renL keep l)
def renL (keep : List Nat) : List AVal → List AVal
  | [] => []
  | a :: l => renV keep a :: renL keep l
end

def renH (keep : List Nat) (H : AHeap) : AHeap := keep.map fun i => (hget H i).map fun b => ⟨renL keep b.cells, b.ty⟩

theorem idxOf_get {keep : List Nat} {id j : Nat} (h : keep.idxOf? id = some j) : keep[j]? = some id := by
  unfold List.idxOf? at h
  rw [List.findIdx?_eq_some_iff_getElem] at h
  obtain ⟨hj, h1, _⟩ := h
  rw [List.getElem?_eq_getElem hj]
  simpa using h1

theorem conc_ren {keep : List Nat} {σ σ' : Sg} (hσ : ∀ (j id : Nat), keep[j]? = some id → sg σ' j = sg σ id) {a a' : AAd} {c : Addr} (hr : renA keep a = some a') (hc : conc σ a = some c) : conc σ' a' = some c := by
  cases a with
  | base a => simp only [renA, Option.some.injEq] at hr; subst hr; exact hc
  | loc id off =>
    simp only [renA, Option.map_eq_some_iff] at hr
    obtain ⟨j, hj, rfl⟩ := hr
    simp only [conc] at hc ⊢
    rw [hσ j id (idxOf_get hj)]
    exact hc

mutual
theorem relV.ren {keep : List Nat} {σ σ' : Sg} (hσ : ∀ (j id : Nat), keep[j]? = some id → sg σ' j = sg σ id) : ∀ {a : AVal} {v : Value}, relV σ a v → relV σ' (renV keep a) v
  | .any, _, _ => by simp only [renV, relV]
  | .bool b, _, h => by simp only [renV, relV] at h ⊢; exact h
  | .int k n, _, h => by simp only [renV, relV] at h ⊢; exact h
  | .str s, _, h => by simp only [renV, relV] at h ⊢; exact h
  | .ptr a, _, h => by
    simp only [relV] at h
    obtain ⟨c, hc, e⟩ := h
    simp only [renV]
    split
    · rename_i a' ha; simp only [relV]; exact ⟨c, conc_ren hσ ha hc, e⟩
    · simp only [relV]
  | .nilp, _, h => by simp only [renV, relV] at h ⊢; exact h
  | .arr id n, _, h => by
    simp only [relV] at h
    obtain ⟨s, cap, hs, r⟩ := h
    simp only [renV]
    split
    · rename_i j hj; simp only [relV]; exact ⟨s, cap, by rw [hσ j id (idxOf_get hj)]; exact hs, r⟩
    · simp only [relV]
  | .slc a n, _, h => by
    simp only [relV] at h
    obtain ⟨c, c', cap, hc, r⟩ := h
    simp only [renV]
    split
    · rename_i a' ha; simp only [relV]; exact ⟨c, c', cap, conc_ren hσ ha hc, r⟩
    · simp only [relV]
  | .nils, _, h => by simp only [renV, relV] at h ⊢; exact h
  | .fn f caps, _, h => by
    simp only [renV, relV] at h ⊢
    obtain ⟨cs, e, r⟩ := h
    exact ⟨cs, e, relL.ren hσ r⟩
  | .mth f caps, _, h => by
    simp only [renV, relV] at h ⊢
    obtain ⟨cs, e, r⟩ := h
    exact ⟨cs, e, relL.ren hσ r⟩
  | .nilf, _, h => by simp only [renV, relV] at h ⊢; exact h
  | .agg l, _, h => by
    simp only [renV, relV] at h ⊢
    obtain ⟨cs, e, r⟩ := h
    exact ⟨cs, e, relL.ren hσ r⟩
  | .tup l, _, h => by
    simp only [renV, relV] at h ⊢
    obtain ⟨cs, e, r⟩ := h
    exact ⟨cs, e, relL.ren hσ r⟩
theorem relL.ren {keep : List Nat} {σ σ' : Sg} (hσ : ∀ (j id : Nat), keep[j]? = some id → sg σ' j = sg σ id) : ∀ {l : List AVal} {vs : List Value}, relL σ l vs → relL σ' (renL keep l) vs
  | [], _, h => by simp only [renL, relL] at h ⊢; exact h
  | a :: l, _, h => by
    simp only [renL, relL] at h ⊢
    obtain ⟨v, vs', e, r1, r2⟩ := h
    exact ⟨v, vs', e, relV.ren hσ r1, relL.ren hσ r2⟩
end

theorem renL_length (keep : List Nat) : ∀ l : List AVal, (renL keep l).length = l.length
  | [] => rfl
  | a :: l => by simp [renL, renL_length keep l]

/-- which numbers may be kept -/
structure KeepOK (n0 : Nat) (H : AHeap) (keep : List Nat) : Prop where
  nodup : keep.Nodup
  lt : ∀ i ∈ keep, i < H.length
  floor : ∀ i, i < n0 → keep[i]? = some i

theorem hget_renH {keep : List Nat} {H : AHeap} {j : Nat} {b : ABlk} (h : hget (renH keep H) j = some b) : ∃ id b0, keep[j]? = some id ∧ hget H id = some b0 ∧ b = ⟨renL keep b0.cells, b0.ty⟩ := by
  rw [hget_eq] at h
  unfold renH at h
  rw [List.getElem?_map, Option.map_eq_some_iff] at h
  obtain ⟨id, hid, h⟩ := h
  simp only [Option.map_eq_some_iff] at h
  obtain ⟨b0, hb0, rfl⟩ := h
  exact ⟨id, b0, hid, hb0, rfl⟩

theorem St.ren {X : Fx} {σ0 : Sg} {t : Fr} {H : AHeap} (hl : σ0.length = X.n0) {keep : List Nat} (hk : KeepOK X.n0 H keep) {a : Act} {w : World} {σ : Sg} (s : St X.C σ0 X.n t H a w σ) :
    ∃ σ', St X.C σ0 X.n (fun i => renV keep (t i)) (renH keep H) a w σ' ∧ ∀ {a : AVal} {v : Value}, relV σ a v → relV σ' (renV keep a) v := by
  let σ' : Sg := keep.map fun i => sg σ i
  have hltσ : ∀ i ∈ keep, i < σ.length := fun i hi => by rw [s.rep.len]; exact hk.lt i hi
  have hσ : ∀ (j id : Nat), keep[j]? = some id → sg σ' j = sg σ id := by
    intro j id hj
    show ((keep.map fun i => sg σ i)[j]?).join = _
    rw [List.getElem?_map, hj]; rfl
  refine ⟨σ', ⟨?_, ⟨?_, ?_, ?_, s.rep.below⟩, ⟨s.fr.1, fun i => (s.fr.2 i).ren hσ⟩, s.defers⟩, fun h => h.ren hσ⟩
  · rw [List.prefix_iff_getElem?]
    intro i hi
    have h1 := hk.floor i (by omega)
    show (keep.map fun i => sg σ i)[i]? = _
    rw [List.getElem?_map, h1]
    have h2 := (List.prefix_iff_getElem?.1 s.pre) i hi
    simp only [Option.map_some, sg, h2, Option.join_some]
  · show (keep.map fun i => sg σ i).length = (renH keep H).length
    simp [renH]
  · intro j b hb
    obtain ⟨id, b0, hid, hb0, rfl⟩ := hget_renH hb
    obtain ⟨si, c, hs, h2, h3, h4, h5, h6, h7⟩ := s.rep.blk id b0 hb0
    refine ⟨si, c, by rw [hσ j id hid]; exact hs, h2, h3, h4, by rw [renL_length]; exact h5, by rw [renL_length]; exact h6.ren hσ, h7⟩
  · intro i j bi bj si sj hi hj hsi hsj e
    obtain ⟨id1, b1, hid1, hb1, _⟩ := hget_renH hi
    obtain ⟨id2, b2, hid2, hb2, _⟩ := hget_renH hj
    rw [hσ i id1 hid1] at hsi
    rw [hσ j id2 hid2] at hsj
    have := s.rep.inj id1 id2 b1 b2 si sj hb1 hb2 hsi hsj e
    subst this
    have hi' := (List.getElem?_eq_some_iff.1 hid1).1

    exact (List.getElem?_inj hi' hk.nodup).1 (by rw [hid1, hid2])

theorem FW.ren {X : Fx} {fc : FC} {t : Fr} {H : AHeap} {Q : FQ} (keep : List Nat) (hk : KeepOK X.n0 H keep) (h : FW X fc (fun i => renV keep (t i)) (renH keep H) Q) : FW X fc t H Q := by
  intro c hc σ0 hl a w σ hs
  obtain ⟨σ', hs', _⟩ := hs.ren hl hk
  exact h c hc σ0 hl a w σ' hs'

/-- THE END OF A FUNCTION, with numbers anew. -/
def retR (X : Fx) (rs : List FRes) (Post : AVal → AHeap → Prop) : FQ := fun e t H => match e with
  | .normal | .ret => ∃ vs keep, resL X.C t H rs = some vs ∧ KeepOK X.n0 H keep ∧ Post (renV keep (tupV vs)) (renH keep H)
  | _ => False

theorem FCalls.bodyR {C : Ctx} {f : Nat} {e : FEnt} (hv : Valid C.P f e) {args : List AVal} {H : AHeap} {Post : AVal → AHeap → Prop} (hargs : args.length ≤ e.n)
    (h : (∀ i b, hget H i = some b → ltL H.length b.cells) → ltL H.length args → FW ⟨C, e.n, H.length⟩ e.code (frA args) H (retR ⟨C, e.n, H.length⟩ e.res Post)) : FCalls C f args H Post := by
  obtain ⟨fn, c, hf, hb, hname, h4, hc, hr⟩ := hv
  refine ⟨⟨fn, hf, hname, by rw [hb]; rfl⟩, fun σ w cargs hrep hrel => ?_⟩
  refine calls_of_wp hf hb ?_
  have hal := hrel.length
  have hs : St C σ e.n (frA args) H { tmps := cargs ++ Array.replicate (fn.ntmps - cargs.size) undef, defers := [] } w σ := by
    refine ⟨List.prefix_rfl, hrep, ⟨by rw [Array.length_toList] at hal; simp; omega, fun i => ?_⟩, rfl⟩
    simp only [frA, Array.getD_eq_getD_getElem?]
    cases hai : args[i]? with
    | none => simp only [Option.getD_none, relV]
    | some x =>
      obtain ⟨v, hv, hr⟩ := hrel.get hai
      have hlt : i < cargs.size := by rw [← Array.length_toList]; exact (List.getElem?_eq_some_iff.1 hv).1
      rw [Array.getElem?_append_left hlt]
      have : cargs[i]? = some v := by rw [← Array.getElem?_toList]; exact hv
      rw [this]
      exact hr
  have hwf : ∀ i b, hget H i = some b → ltL H.length b.cells := by
    intro i b hb
    obtain ⟨s, cs, _, _, _, _, _, hr, _⟩ := hrep.blk i b hb
    have := hr.isLt
    rwa [hrep.len] at this
  have hlt : ltL H.length args := by have := hrel.isLt; rwa [hrep.len] at this
  refine wp_mono (h hwf hlt c hc σ hrep.len _ w σ hs) ?_
  have fin : ∀ a' w', (∃ t H1 σ1, (∃ vs keep, resL C t H1 e.res = some vs ∧ KeepOK H.length H1 keep ∧ Post (renV keep (tupV vs)) (renH keep H1)) ∧ St C σ e.n t H1 a' w' σ1) →
      a'.defers = [] ∧ ∃ v, (results fn a'.tmps).run C.P w' = .ok v w' ∧ ∃ v' av H' σ', Ending.returned v = .returned v' ∧ Post av H' ∧ σ <+: σ' ∧ relV σ' av v' ∧ Rep C σ' H' w' := by
    rintro a' w' ⟨t, H1, σ1, ⟨vs, keep, hres, hk, hpost⟩, s⟩
    obtain ⟨cv, h1, h2⟩ := run_resultsF s hr hres
    obtain ⟨σ', s', hre⟩ := s.ren (X := ⟨C, e.n, H.length⟩) hrep.len hk
    exact ⟨s.defers, cv, h1, cv, _, _, σ', rfl, hpost, s'.pre, hre h2, s'.rep⟩
  rintro ex a' w' ⟨t, H1, σ1, q, s⟩
  cases ex with
  | normal => exact fin a' w' ⟨t, H1, σ1, q, s⟩
  | ret => exact fin a' w' ⟨t, H1, σ1, q, s⟩
  | _ => exact q.elim


/-- A LOOP, its relation up to numbers. -/
theorem FW.loopR {X : Fx} {x : FC} {t : Fr} {H : AHeap} {Q : FQ} (I : Fr → AHeap → Nat → Prop) (m : Nat) (h0 : I t H m)
    (hr : ∀ t H m, I t H m → FW X x t H (loopQ (fun t H m => ∃ keep, KeepOK X.n0 H keep ∧ I (fun i => renV keep (t i)) (renH keep H) m) m Q)) : FW X (.loop x) t H Q := by
  intro c hc σ0 hl a w σ hs
  cases c <;> simp only [comp, reduceCtorEq, Option.some.injEq, Option.map_eq_some_iff, and_false, exists_false] at hc
  case loop p =>
    obtain ⟨fx, hx, e⟩ := hc
    simp only [FC.loop.injEq] at e
    subst e
    refine wp_loop_ghost (fun m a w => ∃ t H σ, I t H m ∧ St X.C σ0 X.n t H a w σ) m ⟨t, H, σ, h0, hs⟩ ?_
    rintro m1 a1 w1 ⟨t1, H1, σ1, hI1, hs1⟩
    refine wp_mono (hr _ _ _ hI1 p hx σ0 hl a1 w1 σ1 hs1) ?_
    rintro e a' w' ⟨t', H', σ', q, s⟩
    cases e with
    | normal =>
      obtain ⟨m', hlt, keep, hk, hI'⟩ := q
      obtain ⟨σ2, s2, _⟩ := s.ren hl hk
      exact ⟨m', hlt, _, _, σ2, hI', s2⟩
    | _ => exact ⟨t', H', σ', q, s⟩
  all_goals (repeat' split at hc) <;> simp at hc

theorem take_zero_pre {σ : Sg} : ([] : Sg) <+: σ := List.nil_prefix

/-- A call that needs nothing of the heap: all that was known of it is forgotten. -/
theorem FCalls.forget {C : Ctx} {f : Nat} {args : List AVal} {H : AHeap} {Post : AVal → AHeap → Prop} (h : FCalls C f args [] Post) (ha : ltL 0 args) (hv : ∀ v H1, Post v H1 → v.lt 0) :
    FCalls C f args H fun v H' => (∃ H1, Post v H1) ∧ H' = H.map fun _ => none := by
  refine ⟨h.1, fun σ w cargs hrep hrel => ?_⟩
  have hr0 : Rep C [] [] w := by
    have := hrep.cut (H' := []) (Nat.zero_le _) (fun i b' hb' => by simp [hget] at hb')
    simpa using this
  refine (h.2 [] w cargs hr0 (hrel.cut take_zero_pre ha)).mono ?_
  rintro e w' ⟨v, av, H1, σ1, rfl, hp, _, hvr, hrep1⟩
  refine ⟨v, av, _, σ, rfl, ⟨⟨H1, hp⟩, rfl⟩, List.prefix_rfl, ?_, ?_⟩
  · have h1 := hvr.cut (σ := []) take_zero_pre (hv av H1 hp)
    exact h1.mono (SLe.pre take_zero_pre)
  · have dead : ∀ i, hget (H.map fun _ => (none : Option ABlk)) i = none := by
      intro i
      unfold hget
      rw [List.getElem?_map]
      cases H[i]? <;> rfl
    refine ⟨by simp [hrep.len], fun i b hb => ?_, fun i j bi bj si sj hi => ?_, hrep1.below⟩
    · rw [dead i] at hb; cases hb
    · rw [dead i] at hi; cases hi

def keepB (n0 len : Nat) (keep : List Nat) : Bool := decide keep.Nodup && keep.all (fun i => i < len) && (List.range n0).all fun i => keep[i]? == some i

theorem KeepOK.of {n0 len : Nat} {H : AHeap} {keep : List Nat} (hl : H.length = len) (hb : keepB n0 len keep = true) : KeepOK n0 H keep := by
  unfold keepB at hb
  simp only [Bool.and_eq_true, decide_eq_true_eq, List.all_eq_true, beq_iff_eq, List.mem_range] at hb
  exact ⟨hb.1.1, fun i hi => by rw [hl]; exact hb.1.2 i hi, fun i hi => hb.2 i hi⟩

theorem retR_ret {X : Fx} {rs : List FRes} {Post : AVal → AHeap → Prop} {t : Fr} {H : AHeap} (keep : List Nat) (len : Nat) (hl : H.length = len) (hb : keepB X.n0 len keep = true) (h : ∃ vs, resL X.C t H rs = some vs ∧ Post (renV keep (tupV vs)) (renH keep H)) : retR X rs Post .ret t H := by
  obtain ⟨vs, h1, h2⟩ := h
  exact ⟨vs, keep, h1, .of hl hb, h2⟩

theorem retR_end {X : Fx} {rs : List FRes} {Post : AVal → AHeap → Prop} {t : Fr} {H : AHeap} (keep : List Nat) (len : Nat) (hl : H.length = len) (hb : keepB X.n0 len keep = true) (h : ∃ vs, resL X.C t H rs = some vs ∧ Post (renV keep (tupV vs)) (renH keep H)) : retR X rs Post .normal t H := by
  obtain ⟨vs, h1, h2⟩ := h
  exact ⟨vs, keep, h1, .of hl hb, h2⟩

/-- nothing is forgotten -/
theorem retQ_ret {X : Fx} {rs : List FRes} {Post : AVal → AHeap → Prop} {t : Fr} {H : AHeap} (hn : X.n0 ≤ H.length) (h : ∃ vs, resL X.C t H rs = some vs ∧ Post (tupV vs) H) : retQ X rs Post .ret t H := by
  obtain ⟨vs, h1, h2⟩ := h
  exact ⟨vs, H, h1, Weak.all hn, fun h => absurd h (Nat.lt_irrefl _), h2⟩

theorem retQ_end {X : Fx} {rs : List FRes} {Post : AVal → AHeap → Prop} {t : Fr} {H : AHeap} (hn : X.n0 ≤ H.length) (h : ∃ vs, resL X.C t H rs = some vs ∧ Post (tupV vs) H) : retQ X rs Post .normal t H := by
  obtain ⟨vs, h1, h2⟩ := h
  exact ⟨vs, H, h1, Weak.all hn, fun h => absurd h (Nat.lt_irrefl _), h2⟩

theorem resL_nil (C : Ctx) (t : Fr) (H : AHeap) : resL C t H [] = some [] := rfl
theorem resL_tmp (C : Ctx) (t : Fr) (H : AHeap) (i : Nat) (r : List FRes) : resL C t H (.tmp i :: r) = consO (some (t i)) (resL C t H r) := by
  simp only [resL, resV, consO]; cases resL C t H r <;> rfl
theorem resL_cell (C : Ctx) (t : Fr) (H : AHeap) (i : Nat) (os : Option Nat) (r : List FRes) : resL C t H (.cell i os :: r) = consO (loadA C H os (t i)) (resL C t H r) := by
  simp only [resL, resV, consO]; cases loadA C H os (t i) <;> cases resL C t H r <;> rfl
theorem tupV_one (v : AVal) : tupV [v] = v := rfl
theorem tupV_two (v w : AVal) (l : List AVal) : tupV (v :: w :: l) = .tup (v :: w :: l) := rfl
theorem tupV_nil : tupV [] = .tup [] := rfl
attribute [simp] resL_nil resL_tmp resL_cell tupV_one tupV_two tupV_nil

end Go.F
