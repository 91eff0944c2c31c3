/- A region whose order is open: a tree of the orders that differ. -/
import Derived.Test.YtlghjfmehfochaaDoorFG3
set_option linter.all false
namespace Go.F
open Go.RowKit

def FWtree (C : Ctx) : OTree → Fr → AHeap → (Fr → AHeap → Prop) → Prop
  | .done, t, H, K => K t H
  | .ops l r, t, H, K => FWops C l t H fun t H => FWtree C r t H K
  | .both a b, t, H, K => FWtree C a t H K ∧ FWtree C b t H K
  | .top, _, _, _ => True
  | .stuck, _, _, _ => False

def mkOps (o : FOper) : OTree → OTree
  | .ops l n => .ops (o :: l) n
  | T => .ops [o] T

theorem FWtree_mkOps {C : Ctx} {o : FOper} {T : OTree} {t : Fr} {H : AHeap} {K : Fr → AHeap → Prop} : FWtree C (mkOps o T) t H K = FStep C o t H fun t H => FWtree C T t H K := by
  cases T <;> rfl

def readyIn (A : Nat → List Nat) (rem : List Nat) (j : Nat) : Bool := (A j).all fun e => !rem.contains e

def safeIn (m : Nat → Nat) (L : Nat → FOper) (rem : List Nat) (j : Nat) : Bool := rem.all fun i => i == j || (m i).testBit j || apart (L j) (L i)

def mkTree (A : Nat → List Nat) (m : Nat → Nat) (L : Nat → FOper) : Nat → List Nat → OTree
  | 0, _ => .stuck
  | k + 1, rem => if rem.isEmpty then .done else
    match rem.find? fun j => readyIn A rem j && safeIn m L rem j with
    | some j => mkOps (L j) (mkTree A m L k (rem.erase j))
    | none => (rem.filter (readyIn A rem)).foldr (fun j T => .both (mkOps (L j) (mkTree A m L k (rem.erase j))) T) .top

theorem Sched.congr {A : Nat → List Nat} {n : Nat} {d d' s : List Nat} (h : Sched A n d s) : (∀ i, i ∈ d ↔ i ∈ d') → Sched A n d' s := by
  induction h generalizing d' with
  | nil hall => intro hd; exact .nil fun i hi => (hd i).1 (hall i hi)
  | cons h1 h2 h3 _ ih =>
    intro hd
    exact .cons h1 (fun h => h2 ((hd _).2 h)) (fun e he => (hd e).1 (h3 e he)) (ih fun i => by simp [hd i])

theorem Sched.pull {A : Nat → List Nat} {n j : Nat} {post : List Nat} : ∀ {pre d : List Nat}, Sched A n d (pre ++ j :: post) → Sched A n (j :: d) (pre ++ post)
  | [], d, h => by
    cases h with
    | cons _ _ _ h => exact h
  | i :: pre, d, h => by
    cases h with
    | cons h1 h2 h3 h =>
      have hij : i ≠ j := by
        rintro rfl
        -- i is done by then
        have key : ∀ {s d : List Nat}, Sched A n d s → ∀ x ∈ d, x ∉ s := by
          intro s d hs
          induction hs with
          | nil _ => intro x _ hx; cases hx
          | cons _ hn _ _ ih =>
            intro x hx hxs
            rcases List.mem_cons.1 hxs with rfl | hxs
            · exact hn hx
            · exact ih x (List.mem_cons_of_mem _ hx) hxs
        exact key h i (by simp) (by simp)
      have h4 := (Sched.pull h).congr (d' := i :: j :: d) (fun x => by simp only [List.mem_cons]; constructor <;> (rintro (a | a | a) <;> simp [a]))
      refine .cons h1 ?_ (fun e he => List.mem_cons_of_mem _ (h3 e he)) h4
      intro hin
      rcases List.mem_cons.1 hin with e | hin
      · exact hij e
      · exact h2 hin

/-- put one back from the front -/
theorem back {C : Ctx} {L : Nat → FOper} {j : Nat} {post : List Nat} {K : Fr → AHeap → Prop} : ∀ (pre : List Nat) (t : Fr) (H : AHeap), (∀ i ∈ pre, apart (L j) (L i) = true) → FWops C ((j :: (pre ++ post)).map L) t H K → FWops C ((pre ++ j :: post).map L) t H K
  | [], t, H, _, h => h
  | i :: pre, t, H, hap, h => by
    rw [List.map_cons, FWops_cons, List.cons_append] at h
    have h2 : FStep C (L j) t H fun t H => FStep C (L i) t H fun t H => FWops C ((pre ++ post).map L) t H K := h
    have h3 := h2.swap (hap i (by simp))
    rw [List.cons_append, List.map_cons, FWops_cons]
    refine h3.mono fun t' H' h' => back pre t' H' (fun k hk => hap k (by simp [hk])) ?_
    rw [List.map_cons, FWops_cons]
    exact h'

/-- what comes ahead of i in no order cannot stand in i's mask -/
theorem Sched.not_mask {A : Nat → List Nat} {n : Nat} {m : Nat → Nat} (hm : ∀ (D : List Nat), (∀ d ∈ D, ∀ e ∈ A d, e ∈ D) → ∀ i j, i < n → (m i).testBit j = true → (∀ e ∈ A i, e ∈ D) → j ∈ D) {j : Nat} {post : List Nat} :
    ∀ {pre d : List Nat}, (∀ x ∈ d, ∀ e ∈ A x, e ∈ d) → j ∉ d → Sched A n d (pre ++ j :: post) → ∀ i ∈ pre, (m i).testBit j = false
  | [], _, _, _, _, i, hi => by cases hi
  | k :: pre, d, hcl, hj, h, i, hi => by
    cases h with
    | cons h1 h2 h3 h =>
      rcases List.mem_cons.1 hi with rfl | hi
      · cases hb : (m i).testBit j with
        | false => rfl
        | true => exact absurd (hm d hcl i j h1 hb h3) hj
      · have hkj : k ≠ j := by
          rintro rfl
          have key : ∀ {s d : List Nat}, Sched A n d s → ∀ x ∈ d, x ∉ s := by
            intro s d hs
            induction hs with
            | nil _ => intro x _ hx; cases hx
            | cons _ hn _ _ ih =>
              intro x hx hxs
              rcases List.mem_cons.1 hxs with rfl | hxs
              · exact hn hx
              · exact ih x (List.mem_cons_of_mem _ hx) hxs
          exact key h k (by simp) (by simp)
        refine Sched.not_mask hm ?_ ?_ h i hi
        · intro x hx e he
          rcases List.mem_cons.1 hx with rfl | hx
          · exact List.mem_cons_of_mem _ (h3 e he)
          · exact List.mem_cons_of_mem _ (hcl x hx e he)
        · intro hin
          rcases List.mem_cons.1 hin with e | hin
          · exact hkj e.symm
          · exact hj hin

theorem foldr_both {C : Ctx} {f : Nat → OTree} {t : Fr} {H : AHeap} {K : Fr → AHeap → Prop} : ∀ {l : List Nat}, FWtree C (l.foldr (fun j T => .both (f j) T) .top) t H K → ∀ j ∈ l, FWtree C (f j) t H K
  | [], _, j, hj => by cases hj
  | i :: l, h, j, hj => by
    rw [List.foldr_cons] at h
    rcases List.mem_cons.1 hj with rfl | hj
    · exact h.1
    · exact foldr_both h.2 j hj

/-- EVERY ORDER IS IN THE TREE, but for operations that do not touch each other. -/
theorem tree_sound {C : Ctx} {A : Nat → List Nat} {n : Nat} {m : Nat → Nat} {L : Nat → FOper} {K : Fr → AHeap → Prop}
    (hm : ∀ (D : List Nat), (∀ d ∈ D, ∀ e ∈ A d, e ∈ D) → ∀ i j, i < n → (m i).testBit j = true → (∀ e ∈ A i, e ∈ D) → j ∈ D) :
    ∀ (k : Nat) (rem done s : List Nat), rem.Nodup → (∀ i, i ∈ rem ↔ i < n ∧ i ∉ done) → (∀ d ∈ done, ∀ e ∈ A d, e ∈ done) → (∀ i, i < n → ∀ e ∈ A i, e < n) → Sched A n done s → ∀ (t : Fr) (H : AHeap), FWtree C (mkTree A m L k rem) t H K → FWops C (s.map L) t H K
  | 0, _, _, _, _, _, _, _, _, _, _, h => h.elim
  | k + 1, rem, done, s, hnd, hrem, hcl, hlt, hs, t, H, h => by
    simp only [mkTree] at h
    split at h
    · rename_i hemp
      have hemp' : rem = [] := by simpa using hemp
      cases hs with
      | nil _ => exact h
      | @cons _ i s h1 h2 _ _ =>
        have := (hrem i).2 ⟨h1, h2⟩
        rw [hemp'] at this; cases this
    · rename_i hne0
      have step : ∀ j ∈ rem, (∀ e ∈ A j, e ∈ done) → ∀ s', Sched A n (j :: done) s' → ∀ (t : Fr) (H : AHeap), FWtree C (mkTree A m L k (rem.erase j)) t H K → FWops C (s'.map L) t H K := by
        intro j hj hE s' hs' t H h
        refine tree_sound hm k (rem.erase j) (j :: done) s' (hnd.erase j) ?_ ?_ hlt hs' t H h
        · intro i
          rw [hnd.mem_erase_iff, hrem i]
          simp only [List.mem_cons, not_or]
          constructor
          · rintro ⟨a, b, c⟩; exact ⟨b, a, c⟩
          · rintro ⟨a, b, c⟩; exact ⟨b, a, c⟩
        · intro d hd e he
          rcases List.mem_cons.1 hd with rfl | hd
          · exact List.mem_cons_of_mem _ (hE e he)
          · exact List.mem_cons_of_mem _ (hcl d hd e he)
      have readyE : ∀ j ∈ rem, readyIn A rem j = true → ∀ e ∈ A j, e ∈ done := by
        intro j hj hr e he
        unfold readyIn at hr
        have h1 := List.all_eq_true.1 hr e he
        have hn : e ∉ rem := by simpa using h1
        have hjn := ((hrem j).1 hj).1
        refine Classical.byContradiction fun hc => hn ((hrem e).2 ⟨hlt j hjn e he, hc⟩)
      split at h
      · rename_i j hfind
        have hj := List.mem_of_find?_eq_some hfind
        have hp := List.find?_some hfind
        simp only [Bool.and_eq_true] at hp
        have hE := readyE j hj hp.1
        -- j stands somewhere in s
        have hjs : j ∈ s := by
          have key : ∀ {s d : List Nat}, Sched A n d s → ∀ x, x < n → x ∉ d → x ∈ s := by
            intro s d hs
            induction hs with
            | nil hall => intro x hx hn; exact absurd (hall x hx) hn
            | @cons d i s _ _ _ _ ih =>
              intro x hx hn
              by_cases e : x = i
              · simp [e]
              · exact List.mem_cons_of_mem _ (ih x hx (by simp [e, hn]))
          exact key hs j ((hrem j).1 hj).1 ((hrem j).1 hj).2
        obtain ⟨pre, post, rfl⟩ := List.append_of_mem hjs
        have hmask := Sched.not_mask hm hcl ((hrem j).1 hj).2 hs
        have hpre : ∀ i ∈ pre, apart (L j) (L i) = true := by
          intro i hi
          have hirem : i ∈ rem ∧ i ≠ j := by
            have key : ∀ {s d : List Nat}, Sched A n d s → ∀ x ∈ s, x < n ∧ x ∉ d := by
              intro s d hs
              induction hs with
              | nil _ => intro x hx; cases hx
              | @cons d i s h1 h2 _ _ ih =>
                intro x hx
                rcases List.mem_cons.1 hx with rfl | hx
                · exact ⟨h1, h2⟩
                · exact ⟨(ih x hx).1, fun h => (ih x hx).2 (List.mem_cons_of_mem _ h)⟩
            refine ⟨(hrem i).2 (key hs i (by simp [hi])), ?_⟩
            rintro rfl
            have := key hs.pull i (by simp [hi])
            exact this.2 (by simp)
          have := List.all_eq_true.1 hp.2 i hirem.1
          simp only [Bool.or_eq_true, beq_iff_eq] at this
          rcases this with (e | e) | e
          · exact absurd e hirem.2
          · rw [hmask i hi] at e; cases e
          · exact e
        refine back pre t H hpre ?_
        rw [List.map_cons, FWops_cons]
        rw [FWtree_mkOps] at h
        exact h.mono fun t' H' h' => step j hj hE _ hs.pull t' H' h'
      · cases hs with
        | nil hall =>
          exfalso
          cases rem with
          | nil => exact hne0 rfl
          | cons r rem => exact absurd (hall r ((hrem r).1 (by simp)).1) ((hrem r).1 (by simp)).2
        | @cons _ i s h1 h2 h3 hs' =>
          have hi : i ∈ rem := (hrem i).2 ⟨h1, h2⟩
          have hr : readyIn A rem i = true := by
            unfold readyIn
            refine List.all_eq_true.2 fun e he => ?_
            have : e ∉ rem := fun hin => ((hrem e).1 hin).2 (h3 e he)
            simpa using this
          have h4 := foldr_both h i (List.mem_filter.2 ⟨hi, hr⟩)
          rw [FWtree_mkOps] at h4
          rw [List.map_cons, FWops_cons]
          exact h4.mono fun t' H' h' => step i hi h3 _ hs' t' H' h'

end Go.F
