/- Regions whose order is open, with places kept for what is new: two operations that do not touch each other's blocks may change places. -/
import Derived.Test.YtlghjfmehfochaaDoorFG4
set_option linter.all false
namespace Go.F
open Go.RowKit

def idOf : AAd → List Nat
  | .loc i _ => [i]
  | .base _ => []

/-- the numbers that a value stands at -/
def idA : AVal → List Nat
  | .ptr a => idOf a
  | .arr i _ => [i]
  | .slc a _ => idOf a
  | _ => []

def opIds (t : Fr) : FOp → List Nat
  | .load _ x => idA (evalO t x)
  | .store _ a _ => idA (evalO t a)
  | .slice _ _ x _ _ _ => idA (evalO t x)
  | .append _ _ _ s x => idA (evalO t s) ++ idA (evalO t x)
  | .s2b _ _ x => idA (evalO t x)
  | .b2s x => idA (evalO t x)
  | _ => []

def opMods (p : Nat) (t : Fr) : FOp → List Nat
  | .alloc _ _ => [p]
  | .box _ _ => [p]
  | .bslice _ _ _ _ _ => [p]
  | .mkslice _ _ _ _ _ => [p]
  | .s2b _ _ _ => [p]
  | .append _ _ _ s _ => p :: idA (evalO t s)
  | .store _ a _ => idA (evalO t a)
  | _ => []

def regOp : FOp → Bool
  | .call _ _ => false
  | .clear _ _ _ => false
  | _ => true

def Patch (mods : List Nat) (H H1 : AHeap) : Prop := H1.length = H.length ∧ ∀ id, id ∉ mods → hget H1 id = hget H id

theorem Patch.refl (mods : List Nat) (H : AHeap) : Patch mods H H := ⟨rfl, fun _ _ => rfl⟩

theorem Patch.at {mods : List Nat} {H : AHeap} {p : Nat} (hp : p < H.length) (hm : p ∈ mods) (x : ABlk) : Patch mods H (setAt H p x) := by
  refine ⟨by rw [setAt_length, if_pos hp], fun id hid => ?_⟩
  rw [hget_setAt (Nat.le_of_lt hp), if_neg (fun e => hid (by rw [e]; exact hm))]

theorem Patch.set {mods : List Nat} {H : AHeap} {i : Nat} (hm : i ∈ mods) (x : Option ABlk) : Patch mods H (H.set i x) :=
  ⟨by simp, fun id hid => hget_set_ne (fun e => hid (by rw [e]; exact hm))⟩

theorem Patch.trans {mods : List Nat} {H H1 H2 : AHeap} (h : Patch mods H H1) (h' : Patch mods H1 H2) : Patch mods H H2 :=
  ⟨h'.1.trans h.1, fun id hid => (h'.2 id hid).trans (h.2 id hid)⟩

theorem ldc_congr {C : Ctx} {H H' : AHeap} {a : AAd} (h : ∀ id ∈ idOf a, hget H' id = hget H id) (j : Nat) : ldc C H' a j = ldc C H a j := by
  cases a with
  | loc i o => simp only [ldc, h i (by simp [idOf])]
  | base a => rfl

theorem ldn_congr {C : Ctx} {H H' : AHeap} {a : AAd} (h : ∀ id ∈ idOf a, hget H' id = hget H id) : ∀ (n j : Nat), ldn C H' a j n = ldn C H a j n
  | 0, _ => rfl
  | n + 1, j => by simp only [ldn, ldc_congr h, ldn_congr h n]

theorem loadA_congr {C : Ctx} {H H' : AHeap} {n : Option Nat} {x : AVal} (h : ∀ id ∈ idA x, hget H' id = hget H id) : loadA C H' n x = loadA C H n x := by
  cases x <;> simp only [loadA]
  rename_i p
  have hp : ∀ id ∈ idOf p, hget H' id = hget H id := h
  cases n <;> simp only [ldc_congr hp, ldn_congr hp]

theorem srcCells_congr {C : Ctx} {H H' : AHeap} {e : Nat} {x : AVal} (h : ∀ id ∈ idA x, hget H' id = hget H id) : srcCells C H' e x = srcCells C H e x := by
  cases x <;> simp only [srcCells]
  · rename_i i n
    rw [ldn_congr (a := .loc i 0) h]
  · rename_i p n
    rw [ldn_congr (a := p) (h)]

theorem b2sA_congr {C : Ctx} {H H' : AHeap} {x : AVal} (h : ∀ id ∈ idA x, hget H' id = hget H id) : b2sA C H' x = b2sA C H x := by
  cases x <;> simp only [b2sA]
  · rename_i i n
    rw [ldn_congr (a := .loc i 0) h]
  · rename_i p n
    rw [ldn_congr (a := p) (h)]

theorem sliceA_congr {t : Fr} {H H' : AHeap} {ty e : Nat} {x : AVal} {lo hi mx : Option FOpd} (h : ∀ id ∈ idA x, hget H' id = hget H id) : sliceA H' t ty e x lo hi mx = sliceA H t ty e x lo hi mx := by
  cases x <;> simp only [sliceA]
  rename_i i n
  rw [h i (by simp [idA])]

/-- an operation looks at its own blocks alone, and turns no others -/
theorem stepAt_local {C : Ctx} {p : Nat} {t : Fr} {H H' : AHeap} {o : FOp} {v : AVal} {H1 : AHeap} (hreg : regOp o = true) (hp : opMods p t o ≠ [] → p < H.length) (hl : H'.length = H.length)
    (hag : ∀ id ∈ opIds t o ++ opMods p t o, hget H' id = hget H id) (h : stepAt C p t H o = some (v, H1)) :
    ∃ H1', stepAt C p t H' o = some (v, H1') ∧ Patch (opMods p t o) H H1 ∧ Patch (opMods p t o) H' H1' ∧ ∀ id ∈ opMods p t o, hget H1' id = hget H1 id := by
  have quiet : ∀ {r : Option AVal}, r.map (fun v => (v, H)) = some (v, H1) → r.map (fun v => (v, H')) = some (v, H') ∧ H1 = H := by
    intro r hr
    simp only [Option.map_eq_some_iff, Prod.mk.injEq] at hr ⊢
    obtain ⟨v', e, rfl, rfl⟩ := hr
    exact ⟨⟨v', e, rfl, trivial⟩, rfl⟩
  have fin : H1 = H → stepAt C p t H' o = some (v, H') → opMods p t o = [] → ∃ H1', stepAt C p t H' o = some (v, H1') ∧ Patch (opMods p t o) H H1 ∧ Patch (opMods p t o) H' H1' ∧ ∀ id ∈ opMods p t o, hget H1' id = hget H1 id := by
    intro e1 e2 e3
    subst e1
    exact ⟨H', e2, Patch.refl _ _, Patch.refl _ _, fun id hid => by rw [e3] at hid; cases hid⟩
  have new : ∀ {v' : AVal} {x : ABlk}, some (v', setAt H p x) = some (v, H1) → opMods p t o = [p] → stepAt C p t H' o = some (v', setAt H' p x) → ∃ H1', stepAt C p t H' o = some (v, H1') ∧ Patch (opMods p t o) H H1 ∧ Patch (opMods p t o) H' H1' ∧ ∀ id ∈ opMods p t o, hget H1' id = hget H1 id := by
    intro v' x hs hm hs'
    have hpl : p < H.length := hp (by rw [hm]; simp)
    simp only [Option.some.injEq, Prod.mk.injEq] at hs
    obtain ⟨rfl, rfl⟩ := hs
    refine ⟨_, hs', .at hpl (by rw [hm]; simp) x, .at (by rw [hl]; exact hpl) (by rw [hm]; simp) x, fun id hid => ?_⟩
    rw [hm] at hid
    simp only [List.mem_singleton] at hid
    subst hid
    rw [hget_setAt (by rw [hl]; exact Nat.le_of_lt hpl), hget_setAt (Nat.le_of_lt hpl), if_pos rfl, if_pos rfl]
  cases o <;> simp only [regOp, Bool.false_eq_true] at hreg
  case mov x =>
    simp only [stepAt, Option.some.injEq, Prod.mk.injEq] at h
    exact fin h.2.symm (by simp only [stepAt, h.1]) rfl
  case mkfn f caps =>
    simp only [stepAt, Option.some.injEq, Prod.mk.injEq] at h
    exact fin h.2.symm (by simp only [stepAt, h.1]) rfl
  case mkmth f caps =>
    simp only [stepAt, Option.some.injEq, Prod.mk.injEq] at h
    exact fin h.2.symm (by simp only [stepAt, h.1]) rfl
  case pick c a b =>
    simp only [stepAt] at h
    split at h
    · rename_i bb hbb
      simp only [Option.some.injEq, Prod.mk.injEq] at h
      exact fin h.2.symm (by simp only [stepAt, hbb, h.1]) rfl
    · cases h
  case faddr off x =>
    simp only [stepAt] at h
    split at h
    · rename_i a ha
      simp only [Option.some.injEq, Prod.mk.injEq] at h
      exact fin h.2.symm (by simp only [stepAt, ha, h.1]) rfl
    · cases h
  case extract x i =>
    simp only [stepAt] at h
    split at h
    · rename_i l hl'
      obtain ⟨q1, q2⟩ := quiet h
      exact fin q2 (by simp only [stepAt, hl', q1]) rfl
    · cases h
  case conv k x =>
    simp only [stepAt, Option.map_eq_some_iff, Prod.mk.injEq] at h
    obtain ⟨n, hn, e1, e2⟩ := h
    exact fin e2.symm (by simp only [stepAt, hn, Option.map_some, e1]) rfl
  case len st x =>
    simp only [stepAt, Option.map_eq_some_iff, Prod.mk.injEq] at h
    obtain ⟨n, hn, e1, e2⟩ := h
    exact fin e2.symm (by simp only [stepAt, hn, Option.map_some, e1]) rfl
  case build z ps =>
    simp only [stepAt, Option.map_eq_some_iff, Prod.mk.injEq] at h
    obtain ⟨n, hn, e1, e2⟩ := h
    exact fin e2.symm (by simp only [stepAt, hn, Option.map_some, e1]) rfl
  case nilchk x => obtain ⟨q1, q2⟩ := quiet h; exact fin q2 q1 rfl
  case bin op c x y => obtain ⟨q1, q2⟩ := quiet h; exact fin q2 q1 rfl
  case un op x => obtain ⟨q1, q2⟩ := quiet h; exact fin q2 q1 rfl
  case sliceS x lo hi => obtain ⟨q1, q2⟩ := quiet h; exact fin q2 q1 rfl
  case field off n x => obtain ⟨q1, q2⟩ := quiet h; exact fin q2 q1 rfl
  case iaddr e x i => obtain ⟨q1, q2⟩ := quiet h; exact fin q2 q1 rfl
  case iaddrA l e x i => obtain ⟨q1, q2⟩ := quiet h; exact fin q2 q1 rfl
  case indexS x i => obtain ⟨q1, q2⟩ := quiet h; exact fin q2 q1 rfl
  case load n x =>
    obtain ⟨q1, q2⟩ := quiet h
    refine fin q2 ?_ rfl
    simp only [stepAt]
    rw [loadA_congr (fun id hid => hag id (by simp [opIds, hid]))]
    exact q1
  case b2s x =>
    obtain ⟨q1, q2⟩ := quiet h
    refine fin q2 ?_ rfl
    simp only [stepAt]
    rw [b2sA_congr (fun id hid => hag id (by simp [opIds, hid]))]
    exact q1
  case slice ty e x lo hi mx =>
    obtain ⟨q1, q2⟩ := quiet h
    refine fin q2 ?_ rfl
    simp only [stepAt]
    rw [sliceA_congr (fun id hid => hag id (by simp [opIds, hid]))]
    exact q1
  case alloc ty cells => exact new h rfl rfl
  case box ty x =>
    simp only [stepAt] at h
    split at h
    · rename_i l hl'
      exact new h rfl (by simp only [stepAt, hl'])
    · cases h
  case bslice ty e z n ps =>
    simp only [stepAt, Option.map_eq_some_iff] at h
    obtain ⟨l, hl', h⟩ := h
    exact new (congrArg some h) rfl (by simp only [stepAt, hl', Option.map_some])
  case mkslice ty b z x y =>
    simp only [stepAt, mksliceA] at h
    split at h
    · rename_i l c hx hy
      split at h
      · rename_i hc
        exact new h rfl (by simp only [stepAt, mksliceA, hx, hy, if_pos hc])
      · cases h
    · cases h
  case s2b ty sm x =>
    simp only [stepAt, s2bA] at h
    split at h
    · rename_i s hx
      exact new h rfl (by simp only [stepAt, s2bA, hx])
    · rename_i id n hx
      split at h
      · rename_i hc
        simp only [Option.some.injEq, Prod.mk.injEq] at h
        obtain ⟨rfl, rfl⟩ := h
        have e : hget H' id = hget H id := hag id (by simp [opIds, hx, idA])
        refine ⟨H', by simp only [stepAt, s2bA, hx, e, if_pos hc], Patch.refl _ _, Patch.refl _ _, fun id' hid => hag id' (by simp [hid])⟩
      · cases h
    · cases h
  case store n a x =>
    simp only [stepAt, Option.map_eq_some_iff, Prod.mk.injEq] at h
    obtain ⟨H2, hs, rfl, rfl⟩ := h
    simp only [storeA] at hs
    split at hs
    · rename_i id off ha
      split at hs
      · rename_i b l hb hcl
        split at hs
        · rename_i hc
          simp only [Option.some.injEq] at hs
          subst hs
          have hm : opMods p t (.store n a x) = [id] := by simp only [opMods, ha, idA, idOf]
          have e : hget H' id = hget H id := hag id (by rw [hm]; simp)
          have hlt := hget_lt hb
          refine ⟨H'.set id (some ⟨setL b.cells off l, b.ty⟩), ?_, .set (by rw [hm]; simp) _, .set (by rw [hm]; simp) _, fun id' hid => ?_⟩
          · simp only [stepAt, storeA, ha, e, hb, hcl, if_pos hc, Option.map_some]
          · rw [hm] at hid
            simp only [List.mem_singleton] at hid
            subst hid
            rw [hget_set_same (by rw [hl]; exact hlt), hget_set_same hlt]
        · cases hs
      · cases hs
    · cases hs
  case append ty e b s x =>
    have hm : opMods p t (.append ty e b s x) = p :: idA (evalO t s) := rfl
    have hpl : p < H.length := hp (by rw [hm]; simp)
    simp only [stepAt, appendA] at h
    split at h
    · cases h
    rename_i m news hsrc
    have hsrc' : srcCells C H' e (evalO t x) = some (m, news) := by rw [srcCells_congr (fun id hid => hag id (by simp [opIds, hid]))]; exact hsrc
    split at h
    rotate_left
    · cases h
    rename_i hc1
    split at h
    · rename_i hs
      split at h
      · rename_i hm0
        simp only [Option.some.injEq, Prod.mk.injEq] at h
        obtain ⟨rfl, rfl⟩ := h
        exact ⟨H', by simp only [stepAt, appendA, hsrc', if_pos hc1, hs, if_pos hm0], Patch.refl _ _, Patch.refl _ _, fun id' hid => hag id' (by simp [hid])⟩
      · rename_i hm0
        split at h
        · rename_i hby
          exact new h (by rw [hm, hs]; rfl) (by simp only [stepAt, appendA, hsrc', if_pos hc1, hs, if_neg hm0, if_pos hby])
        · cases h
    · rename_i id n hs
      have hid : id ∈ opMods p t (.append ty e b s x) := by rw [hm, hs]; simp [idA]
      have eid : hget H' id = hget H id := hag id (by simp [hid])
      split at h
      · rename_i blk hb
        have hlt := hget_lt hb
        split at h
        · rename_i hc2
          split at h
          · rename_i hin
            simp only [Option.some.injEq, Prod.mk.injEq] at h
            obtain ⟨rfl, rfl⟩ := h
            refine ⟨H'.set id (some ⟨setL blk.cells (n * e) news, blk.ty⟩), by simp only [stepAt, appendA, hsrc', if_pos hc1, hs, eid, hb, if_pos hc2, if_pos hin], .set hid _, .set hid _, fun id' hid' => ?_⟩
            by_cases q : id' = id
            · subst q
              rw [hget_set_same (by rw [hl]; exact hlt), hget_set_same hlt]
            · rw [hget_set_ne q, hget_set_ne q]
              exact hag id' (by simp [hid'])
          · rename_i hin
            simp only [Option.some.injEq, Prod.mk.injEq] at h
            obtain ⟨rfl, rfl⟩ := h
            have hpm : p ∈ opMods p t (.append ty e b s x) := by rw [hm]; simp
            have hpl1 : p < (H.set id none).length := by simpa using hpl
            have hpl2 : p < (H'.set id none).length := by rw [List.length_set, hl]; exact hpl
            refine ⟨setAt (H'.set id none) p ⟨blk.cells.take (n * e) ++ news, ty⟩, by simp only [stepAt, appendA, hsrc', if_pos hc1, hs, eid, hb, if_pos hc2, if_neg hin], (Patch.set hid _).trans (.at hpl1 hpm _), (Patch.set hid _).trans (.at hpl2 hpm _), fun id' hid' => ?_⟩
            rw [hget_setAt (Nat.le_of_lt hpl2), hget_setAt (Nat.le_of_lt hpl1)]
            split
            · rfl
            · by_cases q : id' = id
              · subst q
                rw [hget_set_same (by rw [hl]; exact hlt), hget_set_same hlt]
              · rw [hget_set_ne q, hget_set_ne q]
                exact hag id' (by simp [hid'])
        · cases h
      · cases h
    · cases h

theorem hget_ext {H H' : AHeap} (hl : H.length = H'.length) (h : ∀ id, hget H id = hget H' id) : H = H' := by
  apply List.ext_getElem hl
  intro i h1 h2
  have := h i
  unfold hget at this
  rw [List.getElem?_eq_getElem h1, List.getElem?_eq_getElem h2] at this
  simpa using this

/-- TWO OPERATIONS THE OTHER WAY ROUND -/
theorem stepAt_swap {C : Ctx} {pa pb : Nat} {t : Fr} {H Ha Hab : AHeap} {a b : FOp} {va vb : AVal} (ra : regOp a = true) (rb : regOp b = true) (la : opMods pa t a ≠ [] → pa < H.length) (lb : opMods pb t b ≠ [] → pb < Ha.length)
    (h1 : stepAt C pa t H a = some (va, Ha)) (h2 : stepAt C pb t Ha b = some (vb, Hab))
    (d1 : ∀ x ∈ opMods pa t a, x ∉ opIds t b ++ opMods pb t b) (d2 : ∀ x ∈ opMods pb t b, x ∉ opIds t a ++ opMods pa t a) :
    ∃ Hb, stepAt C pb t H b = some (vb, Hb) ∧ Hb.length = H.length ∧ Ha.length = H.length ∧ stepAt C pa t Hb a = some (va, Hab) := by
  obtain ⟨_, _, pA, _, _⟩ := stepAt_local ra la rfl (fun _ _ => rfl) h1
  obtain ⟨Hb, h3, pAB, pB, eB⟩ := stepAt_local rb lb pA.1.symm (fun id hid => ((pA.2 id (fun hx => d1 id hx hid)).symm)) h2
  obtain ⟨Hba, h4, _, pBA, eA⟩ := stepAt_local (H' := Hb) ra la pB.1 (fun id hid => pB.2 id (fun hx => d2 id hx hid)) h1
  refine ⟨Hb, h3, pB.1, pA.1, ?_⟩
  have : Hba = Hab := by
    apply hget_ext
    · rw [pBA.1, pB.1, pAB.1, pA.1]
    · intro id
      by_cases ia : id ∈ opMods pa t a
      · rw [eA id ia]
        have : id ∉ opMods pb t b := fun hx => d1 id ia (by simp [hx])
        rw [pAB.2 id this]
      · rw [pBA.2 id ia]
        by_cases ib : id ∈ opMods pb t b
        · rw [eB id ib]
        · rw [pB.2 id ib, pAB.2 id ib, pA.2 id ia]
  rw [← this]
  exact h4

end Go.F
