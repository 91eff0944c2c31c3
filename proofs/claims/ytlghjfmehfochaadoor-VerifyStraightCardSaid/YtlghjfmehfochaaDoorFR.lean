/- Numbers anew behind a heap that is not known whole. -/
import Derived.Test.YtlghjfmehfochaaDoorFQ
set_option linter.all false
namespace Go.F
open Go.RowKit

def keepAt (n : Nat) (ks : List Nat) : List Nat := List.range n ++ ks.map (n + ·)

theorem findIdx_range {n i : Nat} (h : i < n) : (List.range n).findIdx? (· == i) = some i := by
  rw [List.findIdx?_eq_some_iff_getElem]
  refine ⟨by simpa using h, by simp, fun j hj => ?_⟩
  simp
  omega

theorem findIdx_range_none {n i : Nat} (h : n ≤ i) : (List.range n).findIdx? (· == i) = none := by
  rw [List.findIdx?_eq_none_iff]
  intro x hx
  simp at hx ⊢
  omega

theorem findIdx_map_add (n k : Nat) : ∀ ks : List Nat, (ks.map (n + ·)).findIdx? (· == n + k) = ks.findIdx? (· == k)
  | [] => rfl
  | x :: ks => by
    simp only [List.map_cons, List.findIdx?_cons, findIdx_map_add n k ks]
    by_cases e : x = k
    · subst e; simp
    · have : ¬ (n + x = n + k) := by omega
      simp [e, this]

theorem idx_keepAt_lt {n i : Nat} {ks : List Nat} (h : i < n) : (keepAt n ks).idxOf? i = some i := by
  unfold keepAt List.idxOf?
  rw [List.findIdx?_append, findIdx_range h]
  rfl

theorem idx_keepAt (n k : Nat) (ks : List Nat) : (keepAt n ks).idxOf? (n + k) = (ks.idxOf? k).map (n + ·) := by
  unfold keepAt List.idxOf?
  rw [List.findIdx?_append, findIdx_range_none (Nat.le_add_right n k), findIdx_map_add]
  cases ks.findIdx? (· == k) with
  | none => rfl
  | some j => simp [Nat.add_comm]

theorem idx_keepAt0 (n : Nat) (ks : List Nat) : (keepAt n ks).idxOf? n = (ks.idxOf? 0).map (n + ·) := idx_keepAt n 0 ks

theorem renA_keepAt {n : Nat} {ks : List Nat} {a : AAd} (h : a.lt n) : renA (keepAt n ks) a = some a := by
  cases a with
  | loc i o => simp only [renA, idx_keepAt_lt h, Option.map_some]
  | base a => rfl

mutual
theorem renV_keepAt {n : Nat} {ks : List Nat} : ∀ {v : AVal}, v.lt n → renV (keepAt n ks) v = v
  | .any, _ => by simp only [renV]
  | .bool _, _ => by simp only [renV]
  | .int _ _, _ => by simp only [renV]
  | .str _, _ => by simp only [renV]
  | .ptr a, h => by simp only [renV, renA_keepAt (by simpa only [AVal.lt] using h)]
  | .nilp, _ => by simp only [renV]
  | .arr i m, h => by simp only [renV, idx_keepAt_lt (by simpa only [AVal.lt] using h)]
  | .slc a m, h => by simp only [renV, renA_keepAt (by simpa only [AVal.lt] using h)]
  | .nils, _ => by simp only [renV]
  | .fn f l, h => by simp only [renV]; rw [renL_keepAt (by simpa only [AVal.lt] using h)]
  | .mth f l, h => by simp only [renV]; rw [renL_keepAt (by simpa only [AVal.lt] using h)]
  | .nilf, _ => by simp only [renV]
  | .agg l, h => by simp only [renV]; rw [renL_keepAt (by simpa only [AVal.lt] using h)]
  | .tup l, h => by simp only [renV]; rw [renL_keepAt (by simpa only [AVal.lt] using h)]
theorem renL_keepAt {n : Nat} {ks : List Nat} : ∀ {l : List AVal}, ltL n l → renL (keepAt n ks) l = l
  | [], _ => by simp only [renL]
  | a :: l, h => by
    simp only [ltL] at h
    simp only [renL, renV_keepAt h.1, renL_keepAt h.2]
end

theorem KeepOK.at {n0 : Nat} {H L : AHeap} {ks : List Nat} (hn : n0 ≤ H.length) (hnd : ks.Nodup) (hlt : ∀ k ∈ ks, k < L.length) : KeepOK n0 (H ++ L) (keepAt H.length ks) := by
  refine ⟨?_, ?_, ?_⟩
  · unfold keepAt
    rw [List.nodup_append]
    refine ⟨List.nodup_range, ?_, ?_⟩
    · have : ∀ (ks : List Nat), ks.Nodup → (ks.map (H.length + ·)).Nodup := by
        intro ks
        induction ks with
        | nil => intro _; exact List.nodup_nil
        | cons k ks ih =>
          intro h
          rw [List.nodup_cons] at h
          rw [List.map_cons, List.nodup_cons]
          refine ⟨fun hin => ?_, ih h.2⟩
          obtain ⟨k', hk', e⟩ := List.mem_map.1 hin
          have : k' = k := by omega
          subst this
          exact h.1 hk'
      exact this ks hnd
    · intro a ha b hb e
      subst e
      obtain ⟨k, _, rfl⟩ := List.mem_map.1 hb
      have := List.mem_range.1 ha
      omega
  · intro i hi
    unfold keepAt at hi
    rcases List.mem_append.1 hi with hi | hi
    · have := List.mem_range.1 hi; simp; omega
    · obtain ⟨k, hk, rfl⟩ := List.mem_map.1 hi
      have := hlt k hk
      simp; omega
  · intro i hi
    unfold keepAt
    rw [List.getElem?_append_left (by simp; omega), List.getElem?_range (by omega)]

theorem renH_keepAt {H L : AHeap} {ks : List Nat} (hk : ∀ i b, hget H i = some b → ltL H.length b.cells) : renH (keepAt H.length ks) (H ++ L) = H ++ ks.map fun k => (hget L k).map fun b => ⟨renL (keepAt H.length ks) b.cells, b.ty⟩ := by
  unfold renH
  conv => lhs; arg 2; unfold keepAt
  rw [List.map_append, List.map_map]
  congr 1
  · apply List.ext_getElem (by simp)
    intro i h1 h2
    simp only [List.getElem_map, List.getElem_range]
    rw [hget_app_lt h2]
    cases hh : hget H i with
    | none =>
      unfold hget at hh
      rw [List.getElem?_eq_getElem h2] at hh
      simp at hh
      simp [hh]
    | some b =>
      have := hk i b hh
      rw [hget_eq] at hh
      rw [List.getElem?_eq_getElem h2] at hh
      simp only [Option.some.injEq] at hh
      rw [hh, Option.map_some, renL_keepAt this]
  · apply List.map_congr_left
    intro k _
    simp only [Function.comp_apply]
    rw [hget_app_add]

section
variable (n : Nat) (ks : List Nat)
def atK (o : Option Nat) (f : Nat → AVal) : AVal := match o with | some j => f j | none => .any
theorem atK_some (j : Nat) (f : Nat → AVal) : atK (some j) f = f j := rfl
theorem ren_ptr (k o : Nat) : renV (keepAt n ks) (.ptr (.loc (n + k) o)) = atK (ks.idxOf? k) fun j => .ptr (.loc (n + j) o) := by
  simp only [renV, renA, idx_keepAt]
  cases ks.idxOf? k <;> rfl
theorem ren_ptr0 (o : Nat) : renV (keepAt n ks) (.ptr (.loc n o)) = atK (ks.idxOf? 0) fun j => .ptr (.loc (n + j) o) := ren_ptr n ks 0 o
theorem ren_arr (k m : Nat) : renV (keepAt n ks) (.arr (n + k) m) = atK (ks.idxOf? k) fun j => .arr (n + j) m := by
  simp only [renV, idx_keepAt]
  cases ks.idxOf? k <;> rfl
theorem ren_arr0 (m : Nat) : renV (keepAt n ks) (.arr n m) = atK (ks.idxOf? 0) fun j => .arr (n + j) m := ren_arr n ks 0 m
theorem ren_slc (k o m : Nat) : renV (keepAt n ks) (.slc (.loc (n + k) o) m) = atK (ks.idxOf? k) fun j => .slc (.loc (n + j) o) m := by
  simp only [renV, renA, idx_keepAt]
  cases ks.idxOf? k <;> rfl
theorem ren_slc0 (o m : Nat) : renV (keepAt n ks) (.slc (.loc n o) m) = atK (ks.idxOf? 0) fun j => .slc (.loc (n + j) o) m := ren_slc n ks 0 o m
theorem ren_any (keep : List Nat) : renV keep .any = .any := by simp only [renV]
theorem ren_bool (keep : List Nat) (b : Bool) : renV keep (.bool b) = .bool b := by simp only [renV]
theorem ren_int (keep : List Nat) (k : IntKind) (i : Int) : renV keep (.int k i) = .int k i := by simp only [renV]
theorem ren_str (keep : List Nat) (s : ByteArray) : renV keep (.str s) = .str s := by simp only [renV]
theorem ren_nils (keep : List Nat) : renV keep .nils = .nils := by simp only [renV]
theorem ren_nilp (keep : List Nat) : renV keep .nilp = .nilp := by simp only [renV]
theorem ren_base (keep : List Nat) (a : Addr) : renV keep (.ptr (.base a)) = .ptr (.base a) := by simp only [renV, renA]
theorem ren_sbase (keep : List Nat) (a : Addr) (m : Nat) : renV keep (.slc (.base a) m) = .slc (.base a) m := by simp only [renV, renA]
theorem ren_agg (keep : List Nat) (l : List AVal) : renV keep (.agg l) = .agg (renL keep l) := by simp only [renV]
theorem ren_tup (keep : List Nat) (l : List AVal) : renV keep (.tup l) = .tup (renL keep l) := by simp only [renV]
theorem ren_fn (keep : List Nat) (f : Nat) (l : List AVal) : renV keep (.fn f l) = .fn f (renL keep l) := by simp only [renV]
theorem ren_mth (keep : List Nat) (f : Nat) (l : List AVal) : renV keep (.mth f l) = .mth f (renL keep l) := by simp only [renV]
theorem renL_nil (keep : List Nat) : renL keep [] = [] := by simp only [renL]
theorem renL_cons (keep : List Nat) (a : AVal) (l : List AVal) : renL keep (a :: l) = renV keep a :: renL keep l := by simp only [renL]
end
attribute [simp] atK_some ren_ptr ren_ptr0 ren_arr ren_arr0 ren_slc ren_slc0 ren_any ren_bool ren_int ren_str ren_nils ren_nilp ren_base ren_sbase ren_agg ren_tup ren_fn ren_mth renL_nil renL_cons

theorem ren_append (keep : List Nat) : ∀ a b : List AVal, renL keep (a ++ b) = renL keep a ++ renL keep b
  | [], _ => by simp only [List.nil_append, renL]
  | x :: a, b => by simp only [List.cons_append, renL, ren_append keep a b]

theorem idxOf_nil (k : Nat) : ([] : List Nat).idxOf? k = none := rfl
theorem idxOf_cons (a k : Nat) (l : List Nat) : (a :: l).idxOf? k = if a = k then some 0 else (l.idxOf? k).map (· + 1) := by
  unfold List.idxOf?
  rw [List.findIdx?_cons]
  by_cases e : a = k <;> simp [e]
attribute [simp] idxOf_nil idxOf_cons

/-- rows of plain values have no numbers -/
def flatV : AVal → Bool
  | .any => true
  | .bool _ => true
  | .int _ _ => true
  | .str _ => true
  | .nilp => true
  | .nils => true
  | .nilf => true
  | _ => false

theorem flat_ren {keep : List Nat} {l : List AVal} (h : l.all flatV = true) : renL keep l = l := by
  induction l with
  | nil => simp only [renL]
  | cons a l ih =>
    simp only [List.all_cons, Bool.and_eq_true] at h
    simp only [renL, ih h.2]
    cases a <;> simp only [flatV, Bool.false_eq_true, false_and] at h <;> simp only [renV]

theorem flat_lt {n : Nat} {l : List AVal} (h : l.all flatV = true) : ltL n l := by
  rw [ltL_iff]
  intro a ha
  have := List.all_eq_true.1 h a ha
  cases a <;> simp only [flatV, Bool.false_eq_true] at this <;> simp only [AVal.lt]

/-- A LOOP, its relation up to numbers. -/
theorem FW.loopN {X : Fx} {x : FC} {t : Fr} {H : AHeap} {Q : FQ} (I : Fr → AHeap → Nat → Prop) (m : Nat) (h0 : I t H m)
    (hr : ∀ t H m, I t H m → (∀ i b, hget H i = some b → ltL H.length b.cells) → (∀ i, (t i).lt H.length) → X.n0 ≤ H.length → FWx X x t H (loopQ (fun t H m => ∃ keep, KeepOK X.n0 H keep ∧ I (fun i => renV keep (t i)) (renH keep H) m) m Q)) : FW X (.loop x) t H Q := by
  refine FW.loopR I m h0 fun t1 H1 m1 hI => ?_
  intro c hc σ0 hl a w σ hs
  have hk : ∀ i b, hget H1 i = some b → ltL H1.length b.cells := by
    intro i b hb
    obtain ⟨s, cs, _, _, _, _, _, hr, _⟩ := hs.rep.blk i b hb
    have := hr.isLt
    rwa [hs.rep.len] at this
  have ht : ∀ i, (t1 i).lt H1.length := by
    intro i
    have := (hs.fr.2 i).isLt
    rwa [hs.rep.len] at this
  have hn : X.n0 ≤ H1.length := by have := hs.pre.length_le; have := hs.rep.len; omega
  exact FWx_sound (hr _ _ _ hI hk ht hn) c hc σ0 hl a w σ hs

/-- a round's end, with numbers anew -/
theorem loopN_end {X : Fx} {I : Fr → AHeap → Nat → Prop} {m : Nat} {Q : FQ} {t : Fr} {H H1 L : AHeap} (ks : List Nat) (m' : Nat) (hlt : m' < m) (hH : H = H1 ++ L) (hn : X.n0 ≤ H1.length) (hnd : ks.Nodup) (hlt2 : ∀ k ∈ ks, k < L.length) (hk : ∀ i b, hget H1 i = some b → ltL H1.length b.cells)
    (hI : I (fun i => renV (keepAt H1.length ks) (t i)) (H1 ++ ks.map fun k => (hget L k).map fun b => ⟨renL (keepAt H1.length ks) b.cells, b.ty⟩) m') : loopQ (fun t H m => ∃ keep, KeepOK X.n0 H keep ∧ I (fun i => renV keep (t i)) (renH keep H) m) m Q .normal t H := by
  subst hH
  exact ⟨m', hlt, keepAt H1.length ks, .at hn hnd hlt2, by rw [renH_keepAt hk]; exact hI⟩

/-- a function's end, with numbers anew behind what was there -/
theorem retR_at {X : Fx} {rs : List FRes} {Post : AVal → AHeap → Prop} {t : Fr} {H H1 L : AHeap} (ks : List Nat) (hH : H = H1 ++ L) (hn : X.n0 = H1.length) (hnd : ks.Nodup) (hlt2 : ∀ k ∈ ks, k < L.length) (hk : ∀ i b, hget H1 i = some b → ltL H1.length b.cells)
    (h : ∃ vs, resL X.C t (H1 ++ L) rs = some vs ∧ Post (renV (keepAt H1.length ks) (tupV vs)) (H1 ++ ks.map fun k => (hget L k).map fun b => ⟨renL (keepAt H1.length ks) b.cells, b.ty⟩)) : retR X rs Post .ret t H := by
  subst hH
  obtain ⟨vs, h1, h2⟩ := h
  exact ⟨vs, keepAt H1.length ks, h1, .at (by omega) hnd hlt2, by rw [renH_keepAt hk]; exact h2⟩


/-- behind a: b, as a walk of its own -/
def seqF (X : Fx) (b : FC) (Q : FQ) : FQ := fun e t H => match e with
  | .normal => FW X b t H Q
  | e => Q e t H
section
variable {X : Fx} {b : FC} {Q : FQ} {t : Fr} {H : AHeap}
theorem f_normal : seqF X b Q .normal t H = FW X b t H Q := _root_.id rfl
theorem f_exit (j : Nat) : seqF X b Q (.exit j) t H = Q (.exit j) t H := _root_.id rfl
theorem f_ret : seqF X b Q .ret t H = Q .ret t H := _root_.id rfl
theorem f_goto (j : Nat) : seqF X b Q (.goto j) t H = Q (.goto j) t H := _root_.id rfl
end
attribute [simp ↓] f_normal f_exit f_ret f_goto

theorem FW.seq' {X : Fx} {a b : FC} {t : Fr} {H : AHeap} {Q : FQ} (h : FWx X a t H (seqF X b Q)) : FW X (.seq a b) t H Q := by
  refine FW.seq ((FWx_sound h).mono fun e t H h => ?_)
  cases e <;> exact h

def cutN (X : Fx) (Mid : Fr → AHeap → Prop) (Q : FQ) : FQ := fun e t H => match e with
  | .normal => ∃ keep, KeepOK X.n0 H keep ∧ Mid (fun i => renV keep (t i)) (renH keep H)
  | e => Q e t H
section
variable {X : Fx} {Mid : Fr → AHeap → Prop} {Q : FQ} {t : Fr} {H : AHeap}
theorem n_exit (j : Nat) : cutN X Mid Q (.exit j) t H = Q (.exit j) t H := _root_.id rfl
theorem n_ret : cutN X Mid Q .ret t H = Q .ret t H := _root_.id rfl
theorem n_goto (j : Nat) : cutN X Mid Q (.goto j) t H = Q (.goto j) t H := _root_.id rfl
end
attribute [simp ↓] n_exit n_ret n_goto

/-- a cut, with numbers anew behind what was there -/
theorem FW.cutN {X : Fx} {a b : FC} {t : Fr} {H : AHeap} {Q : FQ} (Mid : Fr → AHeap → Prop) (h1 : FWx X a t H (cutN X Mid Q)) (h2 : ∀ t H, Mid t H → FW X b t H Q) : FW X (.seq a b) t H Q := by
  refine FW.seq ((FWx_sound h1).mono fun e t H h => ?_)
  cases e with
  | normal => obtain ⟨keep, hk, hm⟩ := h; exact FW.ren keep hk (h2 _ _ hm)
  | _ => exact h

theorem cutN_end {X : Fx} {Mid : Fr → AHeap → Prop} {Q : FQ} {t : Fr} {H H1 L : AHeap} (ks : List Nat) (hH : H = H1 ++ L) (hn : X.n0 ≤ H1.length) (hnd : ks.Nodup) (hlt2 : ∀ k ∈ ks, k < L.length) (hk : ∀ i b, hget H1 i = some b → ltL H1.length b.cells)
    (hM : Mid (fun i => renV (keepAt H1.length ks) (t i)) (H1 ++ ks.map fun k => (hget L k).map fun b => ⟨renL (keepAt H1.length ks) b.cells, b.ty⟩)) : Go.F.cutN X Mid Q .normal t H := by
  subst hH
  exact ⟨keepAt H1.length ks, .at hn hnd hlt2, by rw [renH_keepAt hk]; exact hM⟩


theorem sc_bool (b : Bool) : scalar (.bool b) = true := rfl
theorem sc_int (k : IntKind) (n : Int) : scalar (.int k n) = true := rfl
theorem sc_str (s : ByteArray) : scalar (.str s) = true := rfl
theorem sc_ptr (a : AAd) : scalar (.ptr a) = true := rfl
theorem sc_nilp : scalar .nilp = true := rfl
theorem sc_arr (i n : Nat) : scalar (.arr i n) = true := rfl
theorem sc_slc (a : AAd) (n : Nat) : scalar (.slc a n) = true := rfl
theorem sc_nils : scalar .nils = true := rfl
theorem sc_fn (f : Nat) (l : List AVal) : scalar (.fn f l) = true := rfl
theorem sc_mth (f : Nat) (l : List AVal) : scalar (.mth f l) = true := rfl
theorem sc_nilf : scalar .nilf = true := rfl
attribute [simp] sc_bool sc_int sc_str sc_ptr sc_nilp sc_arr sc_slc sc_nils sc_fn sc_mth sc_nilf


/-- a scope with one label: what follows a jump -/
def jQ (X : Fx) (l : Nat) (rest : FC) (Q : FQ) : FQ := fun e t H => match e with
  | .goto l' => l' = l ∧ FW X rest t H (noGotoQ Q)
  | e => Q e t H
section
variable {X : Fx} {l : Nat} {rest : FC} {Q : FQ} {t : Fr} {H : AHeap}
theorem j_normal : jQ X l rest Q .normal t H = Q .normal t H := _root_.id rfl
theorem j_exit (j : Nat) : jQ X l rest Q (.exit j) t H = Q (.exit j) t H := _root_.id rfl
theorem j_ret : jQ X l rest Q .ret t H = Q .ret t H := _root_.id rfl
theorem j_goto : jQ X l rest Q (.goto l) t H = FW X rest t H (noGotoQ Q) := by simp [jQ]
theorem g_normal : noGotoQ Q .normal t H = Q .normal t H := _root_.id rfl
theorem g_exit (j : Nat) : noGotoQ Q (.exit j) t H = Q (.exit j) t H := _root_.id rfl
theorem g_ret : noGotoQ Q .ret t H = Q .ret t H := _root_.id rfl
end
attribute [simp ↓] j_normal j_exit j_ret j_goto g_normal g_exit g_ret

theorem FW.scopeJ' {X : Fx} {x rest : FC} {t : Fr} {H : AHeap} {Q : FQ} (l : Nat) (hf : findFC x l = some rest) (h : FW X x t H (jQ X l rest Q)) : FW X (.scope x) t H Q := FW.scopeJ l hf h


theorem KeepOK.at2 {n0 j : Nat} {H L : AHeap} {ks : List Nat} (hn : n0 ≤ H.length + j) (hpre : ∀ i, i < j → ks[i]? = some i) (hnd : ks.Nodup) (hlt : ∀ k ∈ ks, k < L.length) : KeepOK n0 (H ++ L) (keepAt H.length ks) := by
  have h := KeepOK.at (n0 := H.length) (H := H) (L := L) (Nat.le_refl _) hnd hlt
  refine ⟨h.nodup, h.lt, fun i hi => ?_⟩
  rcases Nat.lt_or_ge i H.length with hl | hl
  · exact h.floor i hl
  · unfold keepAt
    rw [List.getElem?_append_right (by simpa using hl), List.length_range, List.getElem?_map, hpre (i - H.length) (by omega)]
    simp
    omega

/-- a function's end: so many of the blocks that it was handed are behind H -/
theorem retR_at2 {X : Fx} {rs : List FRes} {Post : AVal → AHeap → Prop} {t : Fr} {H H1 L : AHeap} {ex : Exit} (hex : ex = .ret ∨ ex = .normal) (j : Nat) (ks : List Nat) (hH : H = H1 ++ L) (hn : X.n0 = H1.length + j) (hpre : ∀ i, i < j → ks[i]? = some i) (hnd : ks.Nodup) (hlt2 : ∀ k ∈ ks, k < L.length) (hk : ∀ i b, hget H1 i = some b → ltL H1.length b.cells)
    (h : ∃ vs, resL X.C t (H1 ++ L) rs = some vs ∧ Post (renV (keepAt H1.length ks) (tupV vs)) (H1 ++ ks.map fun k => (hget L k).map fun b => ⟨renL (keepAt H1.length ks) b.cells, b.ty⟩)) : retR X rs Post ex t H := by
  subst hH
  obtain ⟨vs, h1, h2⟩ := h
  rcases hex with rfl | rfl
  · exact ⟨vs, keepAt H1.length ks, h1, .at2 (j := j) (by omega) hpre hnd hlt2, by rw [renH_keepAt hk]; exact h2⟩
  · exact ⟨vs, keepAt H1.length ks, h1, .at2 (j := j) (by omega) hpre hnd hlt2, by rw [renH_keepAt hk]; exact h2⟩


/-- empty places behind the heap -/
theorem FW.pad {X : Fx} {fc : FC} {t : Fr} {H : AHeap} {Q : FQ} (k : Nat) (h : FW X fc t (H ++ List.replicate k none) Q) : FW X fc t H Q := by
  intro c hc σ0 hl a w σ hs
  exact h c hc σ0 hl a w _ (hs.keep k)


theorem ce_bool (b : Bool) : cellsOf (.bool b) = some [.bool b] := rfl
theorem ce_int (k : IntKind) (n : Int) : cellsOf (.int k n) = some [.int k n] := rfl
theorem ce_str (s : ByteArray) : cellsOf (.str s) = some [.str s] := rfl
theorem ce_ptr (a : AAd) : cellsOf (.ptr a) = some [.ptr a] := rfl
theorem ce_nilp : cellsOf .nilp = some [.nilp] := rfl
theorem ce_arr (i n : Nat) : cellsOf (.arr i n) = some [.arr i n] := rfl
theorem ce_slc (a : AAd) (n : Nat) : cellsOf (.slc a n) = some [.slc a n] := rfl
theorem ce_nils : cellsOf .nils = some [.nils] := rfl
theorem ce_agg (l : List AVal) : cellsOf (.agg l) = some l := rfl
theorem ce_fn (f : Nat) (l : List AVal) : cellsOf (.fn f l) = some [.fn f l] := rfl
theorem ce_mth (f : Nat) (l : List AVal) : cellsOf (.mth f l) = some [.mth f l] := rfl
attribute [simp] ce_bool ce_int ce_str ce_ptr ce_nilp ce_arr ce_slc ce_nils ce_agg ce_fn ce_mth

end Go.F
