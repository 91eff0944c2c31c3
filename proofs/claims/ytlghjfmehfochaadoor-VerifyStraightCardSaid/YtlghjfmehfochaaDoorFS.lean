/- What a law is handed, by the shape of its type. -/
import Derived.Test.YtlghjfmehfochaaDoorFR
import Derived.ProofKit
import Derived.Deep.Slices
set_option linter.all false
namespace Go.F
open Go.RowKit

inductive Sh where
  | int (k : IntKind)
  | bool
  | str
  | sl (row : List Sh)

mutual
def SVal (w : World) : Sh → Value → Prop
  | .int k, v => ∃ n, v = .int k n ∧ (Lit.int k n).wf = true
  | .bool, v => ∃ b, v = .bool b
  | .str, v => ∃ s, v = .string s ∧ s.size ≤ maxLen
  | .sl row, v => v = .slice none 0 0 ∨ ∃ (a : Addr) (len cap : Nat), v = .slice (some a) len cap ∧ len ≤ cap ∧ cap ≤ maxLen ∧ ∀ i, i < len → SRow w row (a.add (i * row.length)) 0
def SRow (w : World) : List Sh → Addr → Nat → Prop
  | [], _, _ => True
  | s :: r, a, j => (∃ u, w.cell? (a.add j) = some u ∧ SVal w s u) ∧ SRow w r a (j + 1)
end

def SCells (w : World) : List Sh → List Value → Prop
  | [], cs => cs = []
  | s :: r, cs => ∃ u us, cs = u :: us ∧ SVal w s u ∧ SCells w r us

theorem SCells.length {w : World} : ∀ {l : List Sh} {cs : List Value}, SCells w l cs → cs.length = l.length
  | [], _, h => by simp only [SCells] at h; simp [h]
  | s :: r, _, h => by obtain ⟨u, us, rfl, _, h⟩ := h; simp [SCells.length h]

theorem SCells.append {w : World} : ∀ {l l' : List Sh} {cs cs' : List Value}, SCells w l cs → SCells w l' cs' → SCells w (l ++ l') (cs ++ cs')
  | [], _, _, _, h, h' => by simp only [SCells] at h; subst h; exact h'
  | s :: r, _, _, _, h, h' => by obtain ⟨u, us, rfl, hu, h⟩ := h; exact ⟨u, _, rfl, hu, SCells.append h h'⟩

theorem SCells.row {w : World} {a : Addr} : ∀ {l : List Sh} {cs : List Value} {j : Nat}, SCells w l cs → (∀ k u, cs[k]? = some u → w.cell? (a.add (j + k)) = some u) → SRow w l a j
  | [], _, _, _, _ => by simp only [SRow]
  | s :: r, _, j, h, hc => by
    obtain ⟨u, us, rfl, hu, h⟩ := h
    simp only [SRow]
    refine ⟨⟨u, by simpa using hc 0 u rfl, hu⟩, SCells.row h fun k x hx => ?_⟩
    have := hc (k + 1) x (by simpa using hx)
    rwa [show j + (k + 1) = j + 1 + k by omega] at this

def shapeF (g : TypeId → Option (List Sh)) (P : Program) : List Field → Nat → Option (List Sh)
  | [], _ => some []
  | f :: r, off => if f.offset = off then match g f.type, shapeF g P r (off + P.cellsOf f.type) with
      | some l, some l' => if l.length = P.cellsOf f.type then some (l ++ l') else none
      | _, _ => none
    else none

def shapeT (P : Program) : Nat → TypeId → Option (List Sh)
  | 0, _ => none
  | n + 1, t => match P.underlying t with
    | some (.int k) => some [.int k]
    | some .bool => some [.bool]
    | some .string => some [.str]
    | some (.slice e) => match shapeT P n e with
      | some row => if row.length = P.cellsOf e then some [.sl row] else none
      | none => none
    | some (.struct fs) => match shapeF (shapeT P n) P fs.toList 0 with
      | some l => if l.length = P.cellsOf t then some l else none
      | none => none
    | _ => none

section
variable {Hd : Type} {enc : TypeId × Value → Hd} {P : Program} {w : World} {base : Nat} {spare : Nat → Bool} {held : Bool}

theorem cells_get {a : Addr} {n : Nat} {cs : List Value} (h : w.cells? base a n = some cs) : ∀ k u, cs[k]? = some u → w.cell? (a.add k) = some u := by
  unfold World.cells? at h
  split at h
  · intro k u hk
    have hl := mapM_some_length h
    have hkn : k < n := by
      have := (List.getElem?_eq_some_iff.1 hk).1
      simpa [hl] using this
    have := mapM_some_get h k k (by simp [List.getElem?_range hkn])
    rw [this, hk]
  · cases h

theorem trod_cells : ∀ (fuel : Nat) (n : Nat) (t : TypeId) (cs : List Value) (x : DataW Hd × List MemPlace) (l : List Sh), DataW.trod enc P w base spare held fuel t cs = some x → shapeT P n t = some l → SCells w l cs
  | 0, _, _, _, _, _, h, _ => by simp [DataW.trod] at h
  | fuel + 1, 0, t, cs, x, l, h, hs => by simp [shapeT] at hs
  | fuel + 1, n + 1, t, cs, x, l, h, hs => by
    simp only [shapeT] at hs
    split at hs
    · rename_i k hu
      simp only [Option.some.injEq] at hs; subst hs
      unfold DataW.trod at h
      rw [hu] at h
      split at h <;> simp_all
      exact ⟨_, _, rfl, ⟨_, rfl, h.1.2⟩, rfl⟩
    · rename_i hu
      simp only [Option.some.injEq] at hs; subst hs
      unfold DataW.trod at h
      rw [hu] at h
      split at h <;> simp_all
      exact ⟨_, _, rfl, ⟨_, rfl⟩, rfl⟩
    · rename_i hu
      simp only [Option.some.injEq] at hs; subst hs
      unfold DataW.trod at h
      rw [hu] at h
      split at h <;> simp_all
      exact ⟨_, _, rfl, ⟨_, rfl, h.1⟩, rfl⟩
    · rename_i e hu
      split at hs
      · rename_i row hrow
        split at hs
        · rename_i hlen
          simp only [Option.some.injEq] at hs; subst hs
          rcases DataW.trod_slice hu h with ⟨rfl, _⟩ | ⟨a, len, cap, elems, rest, m, hm, rfl, _, _, hl, hcap, hel, hget, _⟩
          · exact ⟨_, _, rfl, by simp [SVal], rfl⟩
          · refine ⟨_, _, rfl, ?_, rfl⟩
            simp only [SVal]
            refine .inr ⟨a, len, cap, rfl, hl, hcap, fun i hi => ?_⟩
            have hg := hget i hi
            rw [List.getElem?_eq_getElem (by omega)] at hg
            obtain ⟨cs', h1, h2⟩ := Option.bind_eq_some_iff.1 hg
            have hmf : m = fuel := by omega
            subst hmf
            have ih := trod_cells m n e cs' _ row h2 hrow
            rw [hlen]
            exact ih.row (fun k u hk => by simpa using cells_get h1 k u hk)
        · cases hs
      · cases hs
    · rename_i fs hu
      split at hs
      · rename_i l' hl'
        split at hs
        · rename_i hlen
          simp only [Option.some.injEq] at hs; subst hs
          unfold DataW.trod at h
          rw [hu] at h
          simp only at h
          split at h
          · rename_i hcl
            simp only [Option.map_eq_some_iff] at h
            obtain ⟨xs, hxs, _⟩ := h
            have key : ∀ (fl : List Field) (off : Nat) (ys : List (DataW Hd × List MemPlace)) (l : List Sh), (fl.mapM fun f => DataW.trod enc P w base spare held fuel f.type ((cs.drop f.offset).take (P.cellsOf f.type))) = some ys → shapeF (shapeT P n) P fl off = some l → SCells w l ((cs.drop off).take l.length) := by
              intro fl
              induction fl with
              | nil => intro off ys l _ hf; simp only [shapeF, Option.some.injEq] at hf; subst hf; simp [SCells]
              | cons f fl ih =>
                intro off ys l hm hf
                simp only [shapeF] at hf
                split at hf
                · rename_i hoff
                  split at hf
                  · rename_i l1 l2 h1 h2
                    split at hf
                    · rename_i hl1
                      simp only [Option.some.injEq] at hf; subst hf
                      rw [List.mapM_cons] at hm
                      simp only [bind, Option.bind_eq_some_iff] at hm
                      obtain ⟨y, hy, ys', hys, _⟩ := hm
                      have a1 := trod_cells fuel n f.type _ y l1 hy h1
                      have a2 := ih _ ys' l2 hys h2
                      rw [hoff] at a1
                      rw [List.length_append, ← hl1] at *
                      have := a1.append a2
                      rw [← List.drop_drop] at this
                      rwa [← List.take_add] at this
                    · cases hf
                  · cases hf
                · cases hf
            have := key fs.toList 0 xs l' hxs hl'
            rw [List.drop_zero, hlen, ← hcl, List.take_length] at this
            exact this
          · cases h
        · cases hs
      · cases hs
    · cases hs

end

theorem SRow.get {w : World} {a : Addr} : ∀ {l : List Sh} {j k : Nat} {s : Sh}, SRow w l a j → l[k]? = some s → ∃ u, w.cell? (a.add (j + k)) = some u ∧ SVal w s u
  | [], _, _, _, _, h => by simp at h
  | s :: r, j, 0, s', hr, h => by
    simp only [SRow] at hr
    simp only [List.getElem?_cons_zero, Option.some.injEq] at h
    subst h
    exact hr.1
  | s :: r, j, k + 1, s', hr, h => by
    simp only [SRow] at hr
    have := SRow.get hr.2 (k := k) (by simpa using h)
    rwa [show j + 1 + k = j + (k + 1) by omega] at this

/-- a world as memory that was there before -/
theorem all_cell {P : Program} {w : World} {a : Addr} {v : Value} (h : w.cell? a = some v) : (Ctx.all P w).B a = some (baseV v) := all_B h

/-- a slice of rows of numbers, and what its cells hold -/
theorem SVal.ints {P : Program} {w : World} {row : List Sh} (kinds : List IntKind) (hrow : row = kinds.map Sh.int) {v : Value} (h : SVal w (.sl row) v) (h0 : 0 < row.length) :
    ∃ (f : Nat → Nat → Int) (n : Nat), baseV v ≠ .any ∧ (∀ s, baseV v ≠ .str s) ∧ (baseV v).lt 0 ∧ n ≤ maxLen ∧ (∀ i k kd, i < n → kinds[k]? = some kd → (Lit.int kd (f i k)).wf = true) ∧
      srcCells (Ctx.all P w) [] row.length (baseV v) = some (n, (List.range n).flatMap fun i => (List.range row.length).map fun k => .int (kinds.getD k .i64) (f i k)) := by
  simp only [SVal] at h
  rcases h with rfl | ⟨a, len, cap, rfl, hl, hcap, hr⟩
  · exact ⟨fun _ _ => 0, 0, by simp [baseV], by simp [baseV], by simp [baseV, AVal.lt], Nat.zero_le _, fun i k kd hi => absurd hi (Nat.not_lt_zero _), by simp [baseV, srcCells]⟩
  · have hrl : row.length = kinds.length := by rw [hrow]; simp
    have key : ∀ i, i < len → ∃ g : Nat → Int, ∀ k, k < row.length → w.cell? ((a.add (i * row.length)).add k) = some (.int (kinds.getD k .i64) (g k)) ∧ (Lit.int (kinds.getD k .i64) (g k)).wf = true := by
      intro i hi
      have := hr i hi
      obtain ⟨g, hg⟩ := Deep.choose_lt (n := row.length) (p := fun k z => w.cell? ((a.add (i * row.length)).add k) = some (.int (kinds.getD k .i64) z) ∧ (Lit.int (kinds.getD k .i64) z).wf = true) (fun k hk => by
        have hkk : k < kinds.length := by omega
        have hs : row[k]? = some (.int (kinds.getD k .i64)) := by
          rw [hrow, List.getElem?_map, List.getD_eq_getElem?_getD, List.getElem?_eq_getElem hkk]; rfl
        obtain ⟨u, hu, hv⟩ := this.get hs
        simp only [SVal] at hv
        obtain ⟨z, rfl, hz⟩ := hv
        exact ⟨z, by simpa using hu, hz⟩)
      exact ⟨g, hg⟩
    haveI : Inhabited (Nat → Int) := ⟨fun _ => 0⟩
    obtain ⟨f, hf⟩ := Deep.choose_lt key
    have hb : baseV (.slice (some a) len cap) = .slc (.base a) len := by simp [baseV, hl]
    refine ⟨f, len, by rw [hb]; simp, by rw [hb]; simp, by rw [hb]; simp [AVal.lt, AAd.lt], by omega, ?_, ?_⟩
    · intro i k kd hi hk
      have hkk : k < row.length := by rw [hrl]; exact (List.getElem?_eq_some_iff.1 hk).1
      have := (hf i hi k hkk).2
      rwa [List.getD_eq_getElem?_getD, hk] at this
    · rw [hb]
      simp only [srcCells]
      have hlen : ((List.range len).flatMap fun i => (List.range row.length).map fun k => AVal.int (kinds.getD k .i64) (f i k)).length = len * row.length := by
        have : ∀ n, ((List.range n).flatMap fun i => (List.range row.length).map fun k => AVal.int (kinds.getD k .i64) (f i k)).length = n * row.length := by
          intro n
          induction n with
          | zero => simp
          | succ n ih => rw [List.range_succ, List.flatMap_append, List.length_append, ih]; simp [Nat.add_mul]
        exact this len
      rw [ldn_of hlen fun k hk => ?_]
      · rfl
      simp only [Nat.zero_add, ldc]
      -- the k-th cell
      have hi : k / row.length < len := by rw [Nat.div_lt_iff_lt_mul h0]; exact hk
      have hm : k % row.length < row.length := Nat.mod_lt _ h0
      have hcell := (hf (k / row.length) hi (k % row.length) hm).1
      rw [addr_add_add, show k / row.length * row.length + k % row.length = k by rw [Nat.mul_comm]; exact Nat.div_add_mod k _] at hcell
      rw [all_cell hcell]
      have get : ∀ n i j, i < n → j < row.length → ((List.range n).flatMap fun i => (List.range row.length).map fun k => AVal.int (kinds.getD k .i64) (f i k))[i * row.length + j]? = some (.int (kinds.getD j .i64) (f i j)) := by
        intro n
        induction n with
        | zero => intro i j hi; omega
        | succ n ih =>
          intro i j hi hj
          have hln : ((List.range n).flatMap fun i => (List.range row.length).map fun k => AVal.int (kinds.getD k .i64) (f i k)).length = n * row.length := by
            clear ih hi
            induction n with
            | zero => simp
            | succ n ih => rw [List.range_succ, List.flatMap_append, List.length_append, ih]; simp [Nat.add_mul]
          rw [List.range_succ, List.flatMap_append]
          by_cases e : i < n
          · rw [List.getElem?_append_left (by
              rw [hln]
              calc i * row.length + j < i * row.length + row.length := by omega
                _ = (i + 1) * row.length := by rw [Nat.add_mul]; omega
                _ ≤ n * row.length := Nat.mul_le_mul_right _ e)]
            exact ih i j e hj
          · have : i = n := by omega
            subst this
            rw [List.getElem?_append_right (by rw [hln]; omega), hln, show i * row.length + j - i * row.length = j by omega]
            simp [hj]
      have := get len (k / row.length) (k % row.length) hi hm
      rw [show k / row.length * row.length + k % row.length = k by rw [Nat.mul_comm]; exact Nat.div_add_mod k _] at this
      rw [this]
      rfl

end Go.F
