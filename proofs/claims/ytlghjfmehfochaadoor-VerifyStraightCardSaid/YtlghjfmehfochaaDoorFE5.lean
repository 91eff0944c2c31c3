/- Each operation does what the language says: slices' lengths, slice expressions. -/
import Derived.Test.YtlghjfmehfochaaDoorFE4
set_option linter.all false
namespace Go.F
open Go.RowKit

theorem run_sb (P : Program) (w : World) {v : Value} {k : IntKind} {i : Int} (hv : v = .int k i) (y : Nat) (code : BoundsCode) (h0 : 0 ≤ i) (h1 : i ≤ y) : (Instr.sliceBound v y code).run P w = .ok i.toNat w := by
  subst hv; simp [Instr.sliceBound, asIntOf, h0, h1]

theorem bnd_some {σ : Sg} {n : Nat} {t : Fr} {a : Act} (hF : relF σ n t a.tmps) {x : Operand} {d i : Int} (h : bnd t d (some (cO x)) = some i) : ∃ k, a.eval x = .int k i := relV_asI (relO hF x) h

theorem run_bounds {σ : Sg} {N : Nat} {t : Fr} {a : Act} (hF : relF σ N t a.tmps) (P : Program) (w : World) (isSlice : Bool) {n k esz cap : Nat} {lo hi mx : Option Operand} {l h : Nat} (hn : n ≤ cap) (hk : h * esz ≤ k → h ≤ cap)
    (hs : sliceN t n k esz (lo.map cO) (hi.map cO) (mx.map cO) = some (l, h)) :
    ∃ m, (Instr.sliceBounds isSlice n cap (lo.map a.eval) (hi.map a.eval) (mx.map a.eval)).run P w = .ok (l, h, m) w ∧ l ≤ h ∧ h ≤ m ∧ m ≤ cap ∧ (mx = none → m = cap) ∧ (lo = none → l = 0) ∧ (mx = none ∨ m ≤ n) := by
  unfold sliceN at hs
  split at hs
  · rename_i l0 h0 m0 hl hh hm
    split at hs
    · rename_i hc
      simp only [Option.some.injEq, Prod.mk.injEq] at hs
      obtain ⟨rfl, rfl⟩ := hs
      obtain ⟨c1, c2, c3, c4⟩ := hc
      have hle : h0.toNat ≤ cap := by
        rcases c3 with c3 | ⟨_, c3⟩
        · omega
        · exact hk c3
      have hml : l0.toNat ≤ h0.toNat := by omega
      cases mx with
      | none =>
        refine ⟨cap, ?_, hml, hle, Nat.le_refl _, fun _ => rfl, ?_, .inl rfl⟩
        · have hlow : ∀ code, (match lo.map a.eval with | some v => Instr.sliceBound v h0.toNat code | none => pure 0 : Sem Nat).run P w = .ok l0.toNat w := by
            intro code
            cases lo with
            | none => simp only [Option.map_none, bnd, Option.some.injEq] at hl; subst hl; simp
            | some x =>
              obtain ⟨k1, e1⟩ := bnd_some hF hl
              exact run_sb P w e1 _ _ c1 (by omega)
          have hhigh : ∀ code, (match hi.map a.eval with | some v => Instr.sliceBound v cap code | none => pure n : Sem Nat).run P w = .ok h0.toNat w := by
            intro code
            cases hi with
            | none => simp only [Option.map_none, bnd, Option.some.injEq] at hh; subst hh; simp
            | some x =>
              obtain ⟨k1, e1⟩ := bnd_some hF hh
              exact run_sb P w e1 _ _ (by omega) (by omega)
          cases hi with
          | none =>
            simp only [Option.map_none] at hhigh ⊢
            have := hhigh .index
            simp only [Sem.run_pure, Result.ok.injEq, and_true] at this
            rw [← this] at hlow ⊢
            cases lo with
            | none => simpa [Instr.sliceBounds, Result.andThen] using hlow .sliceB
            | some x =>
              have h2 := hlow .sliceB
              simp only [Option.map_some] at h2
              simp [Instr.sliceBounds, h2, Result.andThen]
          | some y =>
            simp only [Option.map_some] at hhigh ⊢
            cases lo with
            | none =>
              have h2 := hlow .sliceB
              simp only [Option.map_none, Sem.run_pure, Result.ok.injEq, and_true] at h2
              simp [Instr.sliceBounds, hhigh, Result.andThen, ← h2]
            | some x =>
              have h2 := hlow .sliceB
              simp only [Option.map_some] at h2
              simp [Instr.sliceBounds, hhigh, h2, Result.andThen]
        · rintro rfl
          simp only [Option.map_none, bnd, Option.some.injEq] at hl; subst hl; rfl
      | some z =>
        obtain ⟨hine, c5, c6⟩ := c4.resolve_left (by simp)
        cases hi with
        | none => simp at hine
        | some y =>
          obtain ⟨k1, e1⟩ := bnd_some hF hm
          obtain ⟨k2, e2⟩ := bnd_some hF hh
          have hm0 : ∀ code, (Instr.sliceBound (a.eval z) cap code).run P w = .ok m0.toNat w := fun code => run_sb P w e1 _ _ (by omega) (by omega)
          have hh0 : ∀ code, (Instr.sliceBound (a.eval y) m0.toNat code).run P w = .ok h0.toNat w := fun code => run_sb P w e2 _ _ (by omega) (by omega)
          refine ⟨m0.toNat, ?_, hml, by omega, by omega, by simp, ?_, .inr (by omega)⟩
          · cases lo with
            | none =>
              simp only [Option.map_none, bnd, Option.some.injEq] at hl
              subst hl
              simp [Instr.sliceBounds, hm0, hh0, Result.andThen]
            | some x =>
              obtain ⟨k3, e3⟩ := bnd_some hF hl
              have hl0 : ∀ code, (Instr.sliceBound (a.eval x) h0.toNat code).run P w = .ok l0.toNat w := fun code => run_sb P w e3 _ _ c1 (by omega)
              simp [Instr.sliceBounds, hm0, hh0, hl0, Result.andThen]
          · rintro rfl
            simp only [Option.map_none, bnd, Option.some.injEq] at hl; subst hl; rfl
    · cases hs
  · cases hs

theorem run_slice_of {C : Ctx} {w : World} {a : Act} (o : Oper) {T elem : TypeId} {x : Operand} {lo hi mx : Option Operand} {esz : Nat} (hu : C.P.underlying T = some (.slice elem)) (hk : sizeT C.P elem = some esz)
    (ho : o.op = .slice T x lo hi mx) {ad : Option Addr} {n cap l hh m : Nat} (e : a.eval x = .slice ad n cap)
    (hb : (Instr.sliceBounds true n cap (lo.map a.eval) (hi.map a.eval) (mx.map a.eval)).run C.P w = .ok (l, hh, m) w) :
    (execOp a.eval o).run C.P w = .ok (.value (.slice (if m = l then ad else ad.map (·.add (l * esz))) (hh - l) (m - l))) w := by
  obtain ⟨ti, hti, hsz⟩ := Option.map_eq_some_iff.1 hk
  simp [execOp, ho, Instr.sliceAt, run_under hu, Instr.slice, e, hb, Result.andThen, sizeOf, typeInfo, hti, hsz]

theorem step_len {C : Ctx} {σ : Sg} {pl : Nat} {H : AHeap} {w : World} (h : Rep C σ H w) {n : Nat} {t : Fr} {a : Act} (hF : relF σ n t a.tmps) (o : Oper) {T : TypeId} {x : Operand} {m : Nat} {c : Call} {st : Bool} (hu : if st then C.P.underlying T = some .string else ∃ e, C.P.underlying T = some (.slice e))
    (hm : lenA st (evalO t (cO x)) = some m) (hc : c.callee = .builtin .len) (hat : c.argTypes = #[T]) (ha : c.args = #[x]) (ho : o.op = .call c) : Outc C σ pl ((execOp a.eval o).run C.P w) (.int .i64 m) H := by
  have hx := relO hF x
  refine Outc.quiet h (cv := .int .i64 m) ?_ (by simp only [relV])
  have key : (Builtin.len_ #[T] o.type #[a.eval x]).run C.P w = .ok (.int .i64 m) w := by
    generalize hg : evalO t (cO x) = g at *
    cases g <;> simp [lenA] at hm <;> simp only [relV] at hx
    · obtain ⟨hst, rfl⟩ := hm
      subst hst; rw [hx]
      simp only [if_true] at hu
      simp [Builtin.len_, run_under hu, goInt]
    · obtain ⟨hst, rfl⟩ := hm
      subst hst
      obtain ⟨_, _, _, e, _⟩ := hx
      obtain ⟨el, hu⟩ : ∃ e, C.P.underlying T = some (.slice e) := by simpa using hu
      rw [e]; simp [Builtin.len_, run_under hu, goInt]
    · obtain ⟨hst, rfl⟩ := hm
      subst hst
      obtain ⟨_, _, _, _, e, _⟩ := hx
      obtain ⟨el, hu⟩ : ∃ e, C.P.underlying T = some (.slice e) := by simpa using hu
      rw [e]; simp [Builtin.len_, run_under hu, goInt]
    · obtain ⟨hst, rfl⟩ := hm
      subst hst
      obtain ⟨el, hu⟩ : ∃ e, C.P.underlying T = some (.slice e) := by simpa using hu
      rw [hx]; simp [Builtin.len_, run_under hu, goInt]
  simp [execOp, ho, resolve, hc, ha, hat, invoke, builtin, key]

section
variable {C : Ctx} {σ : Sg} {pl : Nat} {H : AHeap} {w : World} (h : Rep C σ H w) {n : Nat} {t : Fr} {a : Act} (hF : relF σ n t a.tmps) (o : Oper)
include h hF

theorem step_sliceS {T : TypeId} {x : Operand} {lo hi : Option Operand} {v : AVal} (hu : C.P.underlying T = some .string) (hv : sliceStr t (evalO t (cO x)) (lo.map cO) (hi.map cO) = some v) (ho : o.op = .slice T x lo hi none) :
    Outc C σ pl ((execOp a.eval o).run C.P w) v H := by
  have hx := relO hF x
  generalize hg : evalO t (cO x) = g at *
  cases g <;> simp only [sliceStr, reduceCtorEq] at hv
  rename_i s
  have e : a.eval x = .string s := by simpa only [relV] using hx
  split at hv
  · rename_i l0 h0 hl hh
    split at hv
    · rename_i hc
      simp only [Option.some.injEq] at hv
      subst hv
      obtain ⟨m, hm, _⟩ := run_bounds hF C.P w false (n := s.size) (k := 0) (esz := 1) (cap := s.size) (lo := lo) (hi := hi) (mx := none) (l := l0.toNat) (h := h0.toNat) (Nat.le_refl _) (by omega) (by
        unfold sliceN
        rw [hl, hh]
        simp only [Option.map_none, bnd]
        rw [if_pos ⟨hc.1, hc.2.1, .inl hc.2.2, .inl trivial⟩])
      refine Outc.quiet h (cv := .string (s.extract l0.toNat h0.toNat)) ?_ (by simp only [relV])
      simp [execOp, ho, Instr.sliceAt, run_under hu, Instr.slice, e, Result.andThen]
      simp only [Option.map_none] at hm
      simp [hm]
    · cases hv
  · cases hv

theorem step_slice {T elem : TypeId} {x : Operand} {lo hi mx : Option Operand} {esz : Nat} {v : AVal} (hu : C.P.underlying T = some (.slice elem)) (hk : sizeT C.P elem = some esz) (h0 : 0 < esz)
    (hv : sliceA H t elem esz (evalO t (cO x)) (lo.map cO) (hi.map cO) (mx.map cO) = some v) (ho : o.op = .slice T x lo hi mx) :
    Outc C σ pl ((execOp a.eval o).run C.P w) v H := by
  have hx := relO hF x
  have hzero : ∀ {q cap : Nat}, q * esz ≤ 0 → q ≤ cap := fun {q cap} hq => by
    rcases Nat.eq_zero_or_pos q with rfl | hp
    · exact Nat.zero_le _
    · have := Nat.mul_pos hp h0; omega
  generalize hg : evalO t (cO x) = g at *
  cases g <;> simp only [sliceA, reduceCtorEq, Option.map_eq_some_iff] at hv
  · -- arr
    rename_i id n
    obtain ⟨⟨l, hh⟩, hs, rfl⟩ := hv
    obtain ⟨s, cap, hsg, e, hle, hcap⟩ : ∃ s cap, sg σ id = some s ∧ a.eval x = .slice (some ⟨s.blk, 0, none⟩) n cap ∧ n ≤ cap ∧ cap * s.esz = s.csz := by simpa only [relV] using hx
    have hkn : hh * esz ≤ (match hget H id with | some b => if b.ty = elem then b.cells.length else 0 | none => 0) → hh ≤ cap := by
      intro hq
      cases hb : hget H id with
      | none => rw [hb] at hq; exact hzero hq
      | some b =>
        rw [hb] at hq
        simp only at hq
        split at hq
        · rename_i hty
          obtain ⟨s', c, hs', _, _, _, hcs, hlc, _, htt⟩ := h.live hb
          rw [hsg] at hs'; cases hs'
          rw [hty] at htt
          have : esz = s.esz := by
            have := hk; unfold sizeT at this; rw [htt] at this; simpa using this.symm
          subst this
          have h2 : hh * s.esz ≤ cap * s.esz := by rw [hcap, ← hcs]; omega
          exact Nat.le_of_mul_le_mul_right h2 h0
        · exact hzero hq
    obtain ⟨m, hm, h1, h2, h3, h4, h5, h6⟩ := run_bounds hF C.P w true (cap := cap) hle hkn hs
    refine Outc.quiet h (run_slice_of o hu hk ho e hm) ?_
    by_cases hc : (Option.map cO lo).isNone && (Option.map cO mx).isNone
    · rw [if_pos hc]
      simp only [Bool.and_eq_true, Option.isNone_iff_eq_none, Option.map_eq_none_iff] at hc
      have := h4 hc.2; have := h5 hc.1; subst_vars
      simp only [relV]
      refine ⟨s, m, hsg, ?_, h2, hcap⟩
      simp [Addr.add]
    · rw [if_neg hc]
      simp only [relV, conc, hsg, Option.map_some]
      refine ⟨_, if m = l then ⟨s.blk, 0, none⟩ else ⟨s.blk, l * esz, none⟩, m - l, rfl, ?_, by omega, fun hp => by rw [if_neg (by omega)]⟩
      congr 1
      split <;> simp [addr_add_loc]
  · -- slc
    rename_i p n
    obtain ⟨⟨l, hh⟩, hs, rfl⟩ := hv
    obtain ⟨c, c', cap, hc, e, hle, hcc⟩ : ∃ c c' cap, conc σ p = some c ∧ a.eval x = .slice (some c') n cap ∧ n ≤ cap ∧ (0 < n → c' = c) := by simpa only [relV] using hx
    have hs0 := hs
    obtain ⟨m, hm, h1, h2, h3, h4, h5, h6⟩ := run_bounds hF C.P w true (cap := cap) hle hzero hs
    have hhn : hh ≤ n := by
      unfold sliceN at hs0
      split at hs0
      · split at hs0
        · rename_i hcond
          simp only [Option.some.injEq, Prod.mk.injEq] at hs0
          obtain ⟨_, rfl⟩ := hs0
          obtain ⟨_, _, c3, _⟩ := hcond
          rcases c3 with c3 | ⟨_, c3⟩
          · omega
          · exact hzero c3
        · cases hs0
      · cases hs0
    refine Outc.quiet h (run_slice_of o hu hk ho e hm) ?_
    simp only [relV]
    refine ⟨_, if m = l then c' else c'.add (l * esz), m - l, conc_addA hc _, ?_, by omega, fun hp => by rw [if_neg (by omega), hcc (by omega)]⟩
    congr 1
    split <;> simp
  · -- nils
    obtain ⟨⟨l, hh⟩, hs, rfl⟩ := hv
    have e : a.eval x = .slice none 0 0 := by simpa only [relV] using hx
    obtain ⟨m, hm, h1, h2, h3, h4, h5, h6⟩ := run_bounds hF C.P w true (cap := 0) (Nat.le_refl _) hzero hs
    refine Outc.quiet h (run_slice_of o hu hk ho e hm) ?_
    have : m = 0 := by omega
    have : hh = 0 := by omega
    have : l = 0 := by omega
    subst_vars
    simp only [relV]
    simp

end

end Go.F
