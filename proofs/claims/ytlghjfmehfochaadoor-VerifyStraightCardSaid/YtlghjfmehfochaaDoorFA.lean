/- A deterministic language over an abstract heap, and what its values stand for. -/
import Derived.WalkKit
set_option linter.all false
namespace Go.F
open Go.RowKit

/-- An abstract address: a cell of a block of the walk's own, or a real cell of the memory that was there before. -/
inductive AAd where
  | loc (id off : Nat)
  | base (a : Addr)
  deriving Inhabited

inductive AVal where
  | any
  | bool (b : Bool)
  | int (k : IntKind) (n : Int)
  | str (s : ByteArray)
  | ptr (a : AAd)
  | nilp
  | arr (id n : Nat)
  | slc (a : AAd) (n : Nat)
  | nils
  | fn (f : Nat) (caps : List AVal)
  | mth (f : Nat) (first : List AVal)
  | nilf
  | agg (l : List AVal)
  | tup (l : List AVal)
  deriving Inhabited

/-- What an own block's number stands for: the real block, its cells, the cells of one element. -/
structure SI where
  blk : Nat
  csz : Nat
  esz : Nat

/-- a place that stands for no block yet holds none -/
abbrev Sg := List (Option SI)

def sg (σ : Sg) (i : Nat) : Option SI := (σ[i]?).join

theorem sg_some {σ : Sg} {i : Nat} {s : SI} : sg σ i = some s ↔ σ[i]? = some (some s) := by
  unfold sg
  cases h : σ[i]? with
  | none => simp
  | some x => cases x <;> simp

theorem sg_lt {σ : Sg} {i : Nat} {s : SI} (h : sg σ i = some s) : i < σ.length := (List.getElem?_eq_some_iff.1 (sg_some.1 h)).1

/-- what stands for a block stands for it from then on -/
def SLe (σ σ' : Sg) : Prop := ∀ i s, sg σ i = some s → sg σ' i = some s

theorem SLe.refl (σ : Sg) : SLe σ σ := fun _ _ h => h
theorem SLe.trans {a b c : Sg} (h : SLe a b) (h' : SLe b c) : SLe a c := fun i s hs => h' i s (h i s hs)
theorem SLe.pre {σ σ' : Sg} (h : σ <+: σ') : SLe σ σ' := by
  obtain ⟨r, rfl⟩ := h
  intro i s hs
  rw [sg_some] at hs ⊢
  rw [List.getElem?_append_left (List.getElem?_eq_some_iff.1 hs).1]
  exact hs
theorem SLe.app (σ r : Sg) : SLe σ (σ ++ r) := SLe.pre (List.prefix_append _ _)

def conc (σ : Sg) : AAd → Option Addr
  | .loc id off => (sg σ id).map fun s => ⟨s.blk, off, none⟩
  | .base a => some a

mutual
def relV (σ : Sg) : AVal → Value → Prop
  | .any, _ => True
  | .bool b, v => v = .bool b
  | .int k n, v => v = .int k n
  | .str s, v => v = .string s
  | .ptr a, v => ∃ c, conc σ a = some c ∧ v = .pointer (some c)
  | .nilp, v => v = .pointer none
  | .arr id n, v => ∃ s cap, sg σ id = some s ∧ v = .slice (some ⟨s.blk, 0, none⟩) n cap ∧ n ≤ cap ∧ cap * s.esz = s.csz
  | .slc a n, v => ∃ c c' cap, conc σ a = some c ∧ v = .slice (some c') n cap ∧ n ≤ cap ∧ (0 < n → c' = c)
  | .nils, v => v = .slice none 0 0
  | .fn f caps, v => ∃ cs : Array Value, v = .func (.func f) #[] cs ∧ relL σ caps cs.toList
  | .mth f first, v => ∃ cs : Array Value, v = .func (.func f) cs #[] ∧ relL σ first cs.toList
  | .nilf, v => v = .nilFunc
  | .agg l, v => ∃ cs : Array Value, v = .agg cs ∧ relL σ l cs.toList
  | .tup l, v => ∃ cs : Array Value, v = .tuple cs ∧ relL σ l cs.toList
def relL (σ : Sg) : List AVal → List Value → Prop
  | [], vs => vs = []
  | a :: l, vs => ∃ v vs', vs = v :: vs' ∧ relV σ a v ∧ relL σ l vs'
end

theorem sg_get {σ σ' : Sg} (h : SLe σ σ') {i : Nat} {s : SI} (hs : sg σ i = some s) : sg σ' i = some s := h i s hs

theorem conc_mono {σ σ' : Sg} (h : SLe σ σ') {a : AAd} {c : Addr} (hc : conc σ a = some c) : conc σ' a = some c := by
  cases a with
  | loc id off =>
    simp only [conc, Option.map_eq_some_iff] at hc ⊢
    obtain ⟨s, hs, rfl⟩ := hc
    exact ⟨s, sg_get h hs, rfl⟩
  | base a => exact hc

mutual
theorem relV.mono {σ σ' : Sg} (h : SLe σ σ') : ∀ {a : AVal} {v : Value}, relV σ a v → relV σ' a v
  | .any, _, _ => by simp only [relV]
  | .bool b, _, hv => by simp only [relV] at hv ⊢; exact hv
  | .int k n, _, hv => by simp only [relV] at hv ⊢; exact hv
  | .str s, _, hv => by simp only [relV] at hv ⊢; exact hv
  | .ptr a, _, hv => by
    simp only [relV] at hv ⊢
    obtain ⟨c, hc, e⟩ := hv
    exact ⟨c, conc_mono h hc, e⟩
  | .nilp, _, hv => by simp only [relV] at hv ⊢; exact hv
  | .arr id n, _, hv => by
    simp only [relV] at hv ⊢
    obtain ⟨s, cap, hs, r⟩ := hv
    exact ⟨s, cap, sg_get h hs, r⟩
  | .slc a n, _, hv => by
    simp only [relV] at hv ⊢
    obtain ⟨c, c', cap, hc, r⟩ := hv
    exact ⟨c, c', cap, conc_mono h hc, r⟩
  | .nils, _, hv => by simp only [relV] at hv ⊢; exact hv
  | .fn f caps, _, hv => by
    simp only [relV] at hv ⊢
    obtain ⟨cs, e, r⟩ := hv
    exact ⟨cs, e, relL.mono h r⟩
  | .mth f caps, _, hv => by
    simp only [relV] at hv ⊢
    obtain ⟨cs, e, r⟩ := hv
    exact ⟨cs, e, relL.mono h r⟩
  | .nilf, _, hv => by simp only [relV] at hv ⊢; exact hv
  | .agg l, _, hv => by
    simp only [relV] at hv ⊢
    obtain ⟨cs, e, r⟩ := hv
    exact ⟨cs, e, relL.mono h r⟩
  | .tup l, _, hv => by
    simp only [relV] at hv ⊢
    obtain ⟨cs, e, r⟩ := hv
    exact ⟨cs, e, relL.mono h r⟩
theorem relL.mono {σ σ' : Sg} (h : SLe σ σ') : ∀ {l : List AVal} {vs : List Value}, relL σ l vs → relL σ' l vs
  | [], _, hv => by simp only [relL] at hv ⊢; exact hv
  | a :: l, _, hv => by
    simp only [relL] at hv ⊢
    obtain ⟨v, vs', e, r1, r2⟩ := hv
    exact ⟨v, vs', e, relV.mono h r1, relL.mono h r2⟩
end

/-! ids below a bound -/
def AAd.lt (n : Nat) : AAd → Prop
  | .loc id _ => id < n
  | .base _ => True

mutual
def AVal.lt (n : Nat) : AVal → Prop
  | .any => True
  | .bool _ => True
  | .int _ _ => True
  | .str _ => True
  | .ptr a => a.lt n
  | .nilp => True
  | .arr id _ => id < n
  | .slc a _ => a.lt n
  | .nils => True
  | .fn _ caps => ltL n caps
  | .mth _ caps => ltL n caps
  | .nilf => True
  | .agg l => ltL n l
  | .tup l => ltL n l
def ltL (n : Nat) : List AVal → Prop
  | [] => True
  | a :: l => a.lt n ∧ ltL n l
end

theorem ltL_iff {n : Nat} {l : List AVal} : ltL n l ↔ ∀ a ∈ l, a.lt n := by
  induction l with
  | nil => simp [ltL]
  | cons a l ih => simp [ltL, ih]

theorem conc_lt {σ : Sg} {a : AAd} {c : Addr} (hc : conc σ a = some c) : a.lt σ.length := by
  cases a with
  | loc id off =>
    simp only [conc, Option.map_eq_some_iff] at hc
    obtain ⟨s, hs, rfl⟩ := hc
    exact sg_lt hs
  | base a => trivial

mutual
theorem relV.isLt {σ : Sg} : ∀ {a : AVal} {v : Value}, relV σ a v → a.lt σ.length
  | .any, _, _ => by simp only [AVal.lt]
  | .bool b, _, hv => by simp only [AVal.lt]
  | .int k n, _, hv => by simp only [AVal.lt]
  | .str s, _, hv => by simp only [AVal.lt]
  | .ptr a, _, hv => by
    simp only [relV] at hv
    obtain ⟨c, hc, e⟩ := hv
    simp only [AVal.lt]; exact conc_lt hc
  | .nilp, _, hv => by simp only [AVal.lt]
  | .arr id n, _, hv => by
    simp only [relV] at hv
    obtain ⟨s, cap, hs, r⟩ := hv
    simp only [AVal.lt]; exact sg_lt hs
  | .slc a n, _, hv => by
    simp only [relV] at hv
    obtain ⟨c, c', cap, hc, r⟩ := hv
    simp only [AVal.lt]; exact conc_lt hc
  | .nils, _, hv => by simp only [AVal.lt]
  | .fn f caps, _, hv => by
    simp only [relV] at hv
    obtain ⟨cs, e, r⟩ := hv
    simp only [AVal.lt]; exact relL.isLt r
  | .mth f caps, _, hv => by
    simp only [relV] at hv
    obtain ⟨cs, e, r⟩ := hv
    simp only [AVal.lt]; exact relL.isLt r
  | .nilf, _, hv => by simp only [AVal.lt]
  | .agg l, _, hv => by
    simp only [relV] at hv
    obtain ⟨cs, e, r⟩ := hv
    simp only [AVal.lt]; exact relL.isLt r
  | .tup l, _, hv => by
    simp only [relV] at hv
    obtain ⟨cs, e, r⟩ := hv
    simp only [AVal.lt]; exact relL.isLt r
theorem relL.isLt {σ : Sg} : ∀ {l : List AVal} {vs : List Value}, relL σ l vs → ltL σ.length l
  | [], _, hv => by simp only [ltL]
  | a :: l, _, hv => by
    simp only [relL] at hv
    obtain ⟨v, vs', e, r1, r2⟩ := hv
    simp only [ltL]
    exact ⟨relV.isLt r1, relL.isLt r2⟩
end

theorem sg_pre {σ σ' : Sg} (h : σ <+: σ') {i : Nat} (hl : i < σ.length) : sg σ' i = sg σ i := by
  obtain ⟨r, rfl⟩ := h
  unfold sg
  rw [List.getElem?_append_left hl]

theorem sg_cut {σ σ' : Sg} (h : σ <+: σ') {i : Nat} {s : SI} (hs : sg σ' i = some s) (hl : i < σ.length) : sg σ i = some s := by
  rwa [sg_pre h hl] at hs

theorem conc_cut {σ σ' : Sg} (h : σ <+: σ') {a : AAd} {c : Addr} (hc : conc σ' a = some c) (hl : a.lt σ.length) : conc σ a = some c := by
  cases a with
  | loc id off =>
    simp only [conc, AAd.lt] at hc hl ⊢
    rwa [sg_pre h hl] at hc
  | base a => exact hc


mutual
theorem relV.cut {σ σ' : Sg} (h : σ <+: σ') : ∀ {a : AVal} {v : Value}, relV σ' a v → a.lt σ.length → relV σ a v
  | .any, _, _, _ => by simp only [relV]
  | .bool b, _, hv, _ => by simp only [relV] at hv ⊢; exact hv
  | .int k n, _, hv, _ => by simp only [relV] at hv ⊢; exact hv
  | .str s, _, hv, _ => by simp only [relV] at hv ⊢; exact hv
  | .ptr a, _, hv, hl => by
    simp only [relV, AVal.lt] at hv hl ⊢
    obtain ⟨c, hc, e⟩ := hv
    exact ⟨c, conc_cut h hc hl, e⟩
  | .nilp, _, hv, _ => by simp only [relV] at hv ⊢; exact hv
  | .arr id n, _, hv, hl => by
    simp only [relV, AVal.lt] at hv hl ⊢
    obtain ⟨s, cap, hs, r⟩ := hv
    exact ⟨s, cap, sg_cut h hs hl, r⟩
  | .slc a n, _, hv, hl => by
    simp only [relV, AVal.lt] at hv hl ⊢
    obtain ⟨c, c', cap, hc, r⟩ := hv
    exact ⟨c, c', cap, conc_cut h hc hl, r⟩
  | .nils, _, hv, _ => by simp only [relV] at hv ⊢; exact hv
  | .fn f caps, _, hv, hl => by
    simp only [relV, AVal.lt] at hv hl ⊢
    obtain ⟨cs, e, r⟩ := hv
    exact ⟨cs, e, relL.cut h r hl⟩
  | .mth f caps, _, hv, hl => by
    simp only [relV, AVal.lt] at hv hl ⊢
    obtain ⟨cs, e, r⟩ := hv
    exact ⟨cs, e, relL.cut h r hl⟩
  | .nilf, _, hv, _ => by simp only [relV] at hv ⊢; exact hv
  | .agg l, _, hv, hl => by
    simp only [relV, AVal.lt] at hv hl ⊢
    obtain ⟨cs, e, r⟩ := hv
    exact ⟨cs, e, relL.cut h r hl⟩
  | .tup l, _, hv, hl => by
    simp only [relV, AVal.lt] at hv hl ⊢
    obtain ⟨cs, e, r⟩ := hv
    exact ⟨cs, e, relL.cut h r hl⟩
theorem relL.cut {σ σ' : Sg} (h : σ <+: σ') : ∀ {l : List AVal} {vs : List Value}, relL σ' l vs → ltL σ.length l → relL σ l vs
  | [], _, hv, _ => by simp only [relL] at hv ⊢; exact hv
  | a :: l, _, hv, hl => by
    simp only [relL, ltL] at hv hl ⊢
    obtain ⟨v, vs', e, r1, r2⟩ := hv
    exact ⟨v, vs', e, relV.cut h r1 hl.1, relL.cut h r2 hl.2⟩
end

/-! lists -/
theorem relL.length {σ : Sg} : ∀ {l : List AVal} {vs : List Value}, relL σ l vs → vs.length = l.length
  | [], _, h => by simp only [relL] at h; simp [h]
  | a :: l, _, h => by
    simp only [relL] at h
    obtain ⟨v, vs', rfl, _, r⟩ := h
    simp [r.length]

theorem relL_iff {σ : Sg} : ∀ {l : List AVal} {vs : List Value}, relL σ l vs ↔ vs.length = l.length ∧ ∀ (i : Nat) (a : AVal) (v : Value), l[i]? = some a → vs[i]? = some v → relV σ a v
  | [], vs => by
    simp only [relL]
    constructor
    · rintro rfl; simp
    · rintro ⟨h, _⟩; simpa using h
  | a :: l, vs => by
    simp only [relL]
    constructor
    · rintro ⟨v, vs', rfl, r1, r2⟩
      obtain ⟨hl, hr⟩ := relL_iff.1 r2
      refine ⟨by simp [hl], ?_⟩
      intro i a' v' ha hv
      cases i with
      | zero => simp at ha hv; subst ha; subst hv; exact r1
      | succ i => exact hr i a' v' (by simpa using ha) (by simpa using hv)
    · rintro ⟨hl, hr⟩
      cases vs with
      | nil => simp at hl
      | cons v vs' =>
        refine ⟨v, vs', rfl, hr 0 a v rfl rfl, relL_iff.2 ⟨by simpa using hl, fun i a' v' ha hv => hr (i + 1) a' v' (by simpa using ha) (by simpa using hv)⟩⟩

theorem relL.get {σ : Sg} {l : List AVal} {vs : List Value} (h : relL σ l vs) {i : Nat} {a : AVal} (ha : l[i]? = some a) : ∃ v, vs[i]? = some v ∧ relV σ a v := by
  obtain ⟨hl, hr⟩ := relL_iff.1 h
  have hi : i < vs.length := by rw [hl]; exact (List.getElem?_eq_some_iff.1 ha).1
  exact ⟨vs[i], List.getElem?_eq_getElem hi, hr i a _ ha (List.getElem?_eq_getElem hi)⟩

theorem relL.append {σ : Sg} : ∀ {l l' : List AVal} {vs vs' : List Value}, relL σ l vs → relL σ l' vs' → relL σ (l ++ l') (vs ++ vs')
  | [], _, _, _, h, h' => by simp only [relL] at h; subst h; exact h'
  | a :: l, l', _, vs', h, h' => by
    simp only [relL] at h
    obtain ⟨v, vs1, rfl, r1, r2⟩ := h
    simp only [List.cons_append, relL]
    exact ⟨v, _, rfl, r1, r2.append h'⟩

theorem relL.take {σ : Sg} {l : List AVal} {vs : List Value} (h : relL σ l vs) (n : Nat) : relL σ (l.take n) (vs.take n) := by
  obtain ⟨hl, hr⟩ := relL_iff.1 h
  refine relL_iff.2 ⟨by simp [hl], fun i a v ha hv => ?_⟩
  rw [List.getElem?_take] at ha hv
  split at ha
  · rename_i hi; rw [if_pos hi] at hv; exact hr i a v ha hv
  · cases ha

theorem relL.drop {σ : Sg} {l : List AVal} {vs : List Value} (h : relL σ l vs) (n : Nat) : relL σ (l.drop n) (vs.drop n) := by
  obtain ⟨hl, hr⟩ := relL_iff.1 h
  refine relL_iff.2 ⟨by simp [hl], fun i a v ha hv => ?_⟩
  rw [List.getElem?_drop] at ha hv
  exact hr _ a v ha hv

theorem relL.set {σ : Sg} {l : List AVal} {vs : List Value} (h : relL σ l vs) (n : Nat) {a : AVal} {v : Value} (hv : relV σ a v) : relL σ (l.set n a) (vs.set n v) := by
  obtain ⟨hl, hr⟩ := relL_iff.1 h
  refine relL_iff.2 ⟨by simp [hl], fun i a' v' ha' hv' => ?_⟩
  rw [List.getElem?_set] at ha' hv'
  split at ha'
  · rename_i hi
    subst hi
    rw [if_pos rfl] at hv'
    split at ha'
    · split at hv'
      · cases ha'; cases hv'; exact hv
      · cases hv'
    · cases ha'
  · rename_i hi
    rw [if_neg hi] at hv'
    exact hr i a' v' ha' hv'

/-! what a real value of the memory that was there before stands for -/
def baseV : Value → AVal
  | .bool b => .bool b
  | .int k n => .int k n
  | .string s => .str s
  | .pointer none => .nilp
  | .pointer (some a) => .ptr (.base a)
  | .slice none 0 0 => .nils
  | .slice (some a) n cap => if n ≤ cap then .slc (.base a) n else .any
  | .nilFunc => .nilf
  | _ => .any

theorem relV_baseV (σ : Sg) (v : Value) : relV σ (baseV v) v := by
  unfold baseV
  split <;> try (simp only [relV]; done)
  · simp only [relV, conc]; exact ⟨_, rfl, rfl⟩
  · split
    · rename_i h; simp only [relV, conc]; exact ⟨_, _, _, rfl, rfl, h, fun _ => rfl⟩
    · simp only [relV]

/-- A constant of the program's text. -/
def constV : Value → AVal
  | .agg cs => .agg (cs.toList.map baseV)
  | .tuple cs => .tup (cs.toList.map baseV)
  | v => baseV v

theorem relL_baseV (σ : Sg) (l : List Value) : relL σ (l.map baseV) l := by
  induction l with
  | nil => simp [relL]
  | cons v l ih => simp only [List.map, relL]; exact ⟨v, l, rfl, relV_baseV σ v, ih⟩

theorem relV_constV (σ : Sg) (v : Value) : relV σ (constV v) v := by
  unfold constV
  split
  · simp only [relV]; exact ⟨_, rfl, relL_baseV σ _⟩
  · simp only [relV]; exact ⟨_, rfl, relL_baseV σ _⟩
  · exact relV_baseV σ v

end Go.F
