/- Each operation does what the language says: all together. -/
import Derived.Test.YtlghjfmehfochaaDoorFE65
set_option linter.all false
namespace Go.F
open Go.RowKit

theorem step_clear {C : Ctx} {σ : Sg} {H : AHeap} {w : World} (h : Rep C σ H w) {t ty e : TypeId} {i : TypeInfo} {z : Value} (ht : C.P.underlying t = some (.slice e)) (hi : C.P.info? e = some i) (hz : i.zero = some z)
    (hzs : z.cells.size = i.size) (h1 : z.cells.toList.all Value.oneCell' = true) {x : AVal} {H' : AHeap} {xv : Value} (hx : relV σ x xv) (hv : clearA H z.cells i.size x = some H') :
    ∃ w', (Builtin.clear_ #[t] ty #[xv]).run C.P w = .ok (.tuple #[]) w' ∧ Rep C σ H' w' := by
  unfold clearA at hv
  split at hv
  · simp only [Option.some.injEq] at hv; subst hv
    have e1 : xv = .slice none 0 0 := by simpa only [relV] using hx
    subst e1
    exact ⟨w, by simp [Builtin.clear_, run_under ht, Result.andThen], h⟩
  · rename_i id off n
    obtain ⟨c, c', cap, hc, rfl, hcap, hcc⟩ : ∃ c c' cap, conc σ (.loc id off) = some c ∧ xv = .slice (some c') n cap ∧ n ≤ cap ∧ (0 < n → c' = c) := by simpa only [relV] using hx
    split at hv
    · rename_i hn
      subst hn
      simp only [Option.some.injEq] at hv; subst hv
      exact ⟨w, by simp [Builtin.clear_, run_under ht, Result.andThen], h⟩
    · rename_i hn
      split at hv
      rotate_left
      · cases hv
      rename_i b hb
      split at hv
      rotate_left
      · cases hv
      rename_i hfit
      simp only [Option.some.injEq] at hv; subst hv
      have := hcc (by omega)
      subst this
      obtain ⟨s, cur, hs, hN, hlt, ⟨fz, hw, hfz⟩, hcs, hle, hrel, hty⟩ := h.live hb
      simp only [conc, hs, Option.map_some, Option.some.injEq] at hc
      subst hc
      have hlen : (Builtin.zeroCells z.cells n).size = n * i.size := by rw [zeros_size, hzs]
      have hone : ∀ v ∈ (Builtin.zeroCells z.cells n).toList, v.oneCell' = true := by
        intro v hv
        unfold Builtin.zeroCells at hv
        simp only [Array.toList_map, List.mem_map] at hv
        obtain ⟨j, hj, rfl⟩ := hv
        have hjlt : j < n * z.cells.size := by simpa using hj
        have hsz : 0 < z.cells.size := by
          rcases Nat.eq_zero_or_pos z.cells.size with e | e
          · rw [e] at hjlt; omega
          · exact e
        have hm : j % z.cells.size < z.cells.size := Nat.mod_lt _ hsz
        rw [getElem!_pos z.cells (j % z.cells.size) hm]
        exact List.all_eq_true.1 h1 _ (by simp)
      have hst := run_storeCells_fz C.P s.blk off b.ty fz (Builtin.zeroCells z.cells n).toList 0 cur w hw hfz (by rw [Array.length_toList, hlen]; omega) hone
      simp only [Nat.add_zero] at hst
      have hrz := relL_baseV σ (Builtin.zeroCells z.cells n).toList
      have hsp := rel_splice hrel hrz (off := off) (by simp only [List.length_map, Array.length_toList, hlen]; exact hfit) (by simpa using hle)
      have hlen2 : (Builtin.zeroCells z.cells n).toList.length = n * i.size := by rw [Array.length_toList, hlen]
      have hrep := h.setRow hb hs (cells := setL b.cells off ((Builtin.zeroCells z.cells n).toList.map baseV)) (c := (cur.toList.take off ++ (Builtin.zeroCells z.cells n).toList ++ cur.toList.drop (off + (Builtin.zeroCells z.cells n).toList.length)).toArray)
        (by simp only [List.size_toArray, List.length_append, List.length_take, List.length_drop, Array.length_toList, hlen]; omega)
        (by rw [setL_length]; simp only [List.size_toArray, List.length_append, List.length_take, List.length_drop, Array.length_toList, hlen]; omega)
        (by simpa only [List.toList_toArray] using hsp)
      obtain ⟨n, rfl⟩ : ∃ k, n = k + 1 := ⟨n - 1, by omega⟩
      refine ⟨_, ?_, hrep⟩
      simp [Builtin.clear_, run_under ht, zeroValue, typeInfo, hi, hz, hst, Result.andThen]
  · cases hv

/-- THE OPERATIONS: what the language says is what the real operation does. -/
theorem step_sound {C : Ctx} {σ : Sg} {H : AHeap} {w : World} (h : Rep C σ H w) {n : Nat} {t : Fr} {a : Act} (hF : relF σ n t a.tmps) (o : Oper) {f : FOp} (hc : compOp C.P o.op = some f) {pl : Nat} (hp : Free σ H pl) {v : AVal} {H' : AHeap} (hs : stepAt C pl t H f = some (v, H')) :
    Outc C σ pl ((execOp a.eval o).run C.P w) v H' := by
  cases ho : o.op
  case move x =>
    simp only [ho, compOp, Option.some.injEq] at hc; subst hc
    simp only [stepAt, Option.some.injEq, Prod.mk.injEq] at hs
    obtain ⟨rfl, rfl⟩ := hs
    exact step_mov h hF o (.inl ho)
  case assign x =>
    simp only [ho, compOp, Option.some.injEq] at hc; subst hc
    simp only [stepAt, Option.some.injEq, Prod.mk.injEq] at hs
    obtain ⟨rfl, rfl⟩ := hs
    exact step_mov h hF o (.inr ho)
  case pick c x y =>
    simp only [ho, compOp, Option.some.injEq] at hc; subst hc
    simp only [stepAt] at hs
    split at hs
    · rename_i bb hbb
      simp only [Option.some.injEq, Prod.mk.injEq] at hs
      obtain ⟨rfl, rfl⟩ := hs
      exact step_pick h hF o hbb rfl ho
    · cases hs
  case alloc ty =>
    simp only [ho, compOp] at hc
    split at hc
    · rename_i i hi
      simp only [Option.map_eq_some_iff] at hc
      obtain ⟨z, hz, rfl⟩ := hc
      simp only [stepAt, Option.some.injEq, Prod.mk.injEq] at hs
      obtain ⟨rfl, rfl⟩ := hs
      exact step_alloc h hF o hp hi hz ho
    · cases hc
  case box ty x =>
    simp only [ho, compOp] at hc
    split at hc
    · rename_i hty
      simp only [Option.some.injEq] at hc; subst hc
      simp only [stepAt] at hs
      split at hs
      · rename_i l hl
        simp only [Option.some.injEq, Prod.mk.injEq] at hs
        obtain ⟨rfl, rfl⟩ := hs
        exact step_box h hF o hp hty hl ho
      · cases hs
    · cases hc
  case build T parts =>
    have hc0 := hc
    simp only [ho] at hc0
    have hf : ∃ zero l, f = .build zero l := by
      simp only [ho, compOp] at hc
      split at hc
      · split at hc
        · simp only [Option.map_eq_some_iff] at hc; obtain ⟨_, _, rfl⟩ := hc; exact ⟨_, _, rfl⟩
        · cases hc
      · split at hc
        · simp only [Option.map_eq_some_iff] at hc; obtain ⟨_, _, rfl⟩ := hc; exact ⟨_, _, rfl⟩
        · cases hc
      · cases hc
    obtain ⟨zero, l, rfl⟩ := hf
    simp only [stepAt, Option.map_eq_some_iff, Prod.mk.injEq] at hs
    obtain ⟨out, hout, rfl, rfl⟩ := hs
    exact step_build h hF o hc0 hout ho
  case buildSlice T len parts =>
    have hc0 := hc
    simp only [ho] at hc0
    have hf : ∃ ty esz zero l, f = .bslice ty esz zero len l := by
      simp only [ho, compOp] at hc
      split at hc
      · split at hc
        · split at hc
          · split at hc
            · simp only [Option.map_eq_some_iff] at hc; obtain ⟨_, _, rfl⟩ := hc; exact ⟨_, _, _, _, rfl⟩
            · cases hc
          · cases hc
        · cases hc
      · cases hc
    obtain ⟨ty, esz, zero, l, rfl⟩ := hf
    simp only [stepAt, Option.map_eq_some_iff, Prod.mk.injEq] at hs
    obtain ⟨out, hout, rfl, rfl⟩ := hs
    exact step_bslice h hF o hp hc0 hout ho
  case load T x =>
    simp only [ho, compOp, Option.map_eq_some_iff] at hc
    obtain ⟨os, hos, rfl⟩ := hc
    simp only [stepAt, Option.map_eq_some_iff, Prod.mk.injEq] at hs
    obtain ⟨v', hv', rfl, rfl⟩ := hs
    exact step_load h hF o hos hv' ho
  case store T p x =>
    simp only [ho, compOp, Option.map_eq_some_iff] at hc
    obtain ⟨k, hk, rfl⟩ := hc
    simp only [stepAt, Option.map_eq_some_iff, Prod.mk.injEq] at hs
    obtain ⟨H2, hH2, rfl, rfl⟩ := hs
    exact step_store h hF o hk hH2 ho
  case nilCheck x =>
    simp only [ho, compOp, Option.some.injEq] at hc; subst hc
    simp only [stepAt, Option.map_eq_some_iff, Prod.mk.injEq] at hs
    obtain ⟨v', hv', rfl, rfl⟩ := hs
    exact step_nilchk h hF o hv' ho
  case binOp op xT x y yT =>
    simp only [ho, compOp, Option.some.injEq] at hc; subst hc
    simp only [stepAt, Option.map_eq_some_iff, Prod.mk.injEq] at hs
    obtain ⟨v', hv', rfl, rfl⟩ := hs
    by_cases hag : ∃ xs ys, evalO t (cO x) = .agg xs ∧ evalO t (cO y) = .agg ys
    · obtain ⟨xs, ys, e1, e2⟩ := hag
      have hx := relO hF x
      have hy := relO hF y
      rw [e1] at hx hv'
      rw [e2] at hy hv'
      exact step_binAgg h hx hy hv' o ho
    · exact step_bin h (relO hF x) (relO hF y) hv' (fun xs ys e => hag ⟨xs, ys, e⟩) o ho
  case unOp op T x =>
    simp only [ho, compOp, Option.some.injEq] at hc; subst hc
    simp only [stepAt, Option.map_eq_some_iff, Prod.mk.injEq] at hs
    obtain ⟨v', hv', rfl, rfl⟩ := hs
    exact step_un h hF o hv' ho
  case convert src dst x =>
    simp only [ho, compOp] at hc
    split at hc
    · rename_i hsrc hdst
      simp only [Option.some.injEq] at hc; subst hc
      simp only [stepAt, Option.map_eq_some_iff, Prod.mk.injEq] at hs
      obtain ⟨m, hm, rfl, rfl⟩ := hs
      exact step_conv h hF o hsrc hdst hm ho
    · rename_i e hsrc hdst
      split at hc
      · rename_i he hsz
        simp only [Option.some.injEq] at hc; subst hc
        simp only [stepAt] at hs
        exact step_s2b h hF o hp hsrc hdst he hsz hs ho
      · cases hc
    · rename_i e hsrc hdst
      split at hc
      · rename_i he hsz
        simp only [Option.some.injEq] at hc; subst hc
        simp only [stepAt] at hs
        exact step_s2b h hF o hp hsrc hdst he hsz hs ho
      · cases hc
    · rename_i e hsrc hdst
      split at hc
      · rename_i he
        simp only [Option.some.injEq] at hc; subst hc
        simp only [stepAt, Option.map_eq_some_iff, Prod.mk.injEq] at hs
        obtain ⟨v', hv', rfl, rfl⟩ := hs
        exact step_b2s h hF o hsrc he hdst hv' ho
      · cases hc
    · cases hc
  case makeFunc fn first caps =>
    cases fn <;> simp only [ho, compOp, reduceCtorEq] at hc
    split at hc
    · rename_i hfi
      simp only [Option.some.injEq] at hc; subst hc
      simp only [stepAt, Option.some.injEq, Prod.mk.injEq] at hs
      obtain ⟨rfl, rfl⟩ := hs
      exact step_mkfn h hF o (by simpa using hfi) ho
    · split at hc
      · rename_i hca
        simp only [Option.some.injEq] at hc; subst hc
        simp only [stepAt, Option.some.injEq, Prod.mk.injEq] at hs
        obtain ⟨rfl, rfl⟩ := hs
        exact step_mkmth h hF o (by simpa using hca) ho
      · cases hc
  case makeSlice T x y =>
    simp only [ho, compOp] at hc
    split at hc
    · rename_i elem hu
      split at hc
      · rename_i i hi
        split at hc
        · rename_i z hz
          split at hc
          · rename_i hcond
            simp only [Option.some.injEq] at hc; subst hc
            simp only [stepAt] at hs
            exact step_mkslice h hF o hp hu hi hz hcond.1 hcond.2 hs ho
          · cases hc
        · cases hc
      · cases hc
    · cases hc
  case slice T x lo hi mx =>
    simp only [ho, compOp] at hc
    split at hc
    · rename_i hu
      split at hc
      · rename_i hmx
        simp only [Option.some.injEq] at hc; subst hc
        simp only [stepAt, Option.map_eq_some_iff, Prod.mk.injEq] at hs
        obtain ⟨v', hv', rfl, rfl⟩ := hs
        simp only [Option.isNone_iff_eq_none] at hmx
        subst hmx
        exact step_sliceS h hF o hu hv' ho
      · cases hc
    · rename_i elem hu
      split at hc
      · rename_i s hk
        split at hc
        · rename_i h0
          simp only [Option.some.injEq] at hc; subst hc
          simp only [stepAt, Option.map_eq_some_iff, Prod.mk.injEq] at hs
          obtain ⟨v', hv', rfl, rfl⟩ := hs
          exact step_slice h hF o hu hk h0 hv' ho
        · cases hc
      · cases hc
    · cases hc
  case fieldAddr S x fi =>
    simp only [ho, compOp] at hc
    split at hc
    · rename_i fields hu
      split at hc
      · rename_i fd hfd
        split at hc
        · rename_i k hk
          split at hc
          · cases hc
          · rename_i hk0
            simp only [Option.some.injEq] at hc; subst hc
            simp only [stepAt] at hs
            split at hs
            · rename_i p hp
              simp only [Option.some.injEq, Prod.mk.injEq] at hs
              obtain ⟨rfl, rfl⟩ := hs
              exact step_faddr h hF o hu hfd hk hk0 hp ho
            · cases hs
        · cases hc
      · cases hc
    · cases hc
  case field T x fi =>
    simp only [ho, compOp] at hc
    split at hc
    · rename_i fields hu
      split at hc
      · rename_i fd hfd
        simp only [Option.map_eq_some_iff] at hc
        obtain ⟨os, hos, rfl⟩ := hc
        simp only [stepAt, Option.map_eq_some_iff, Prod.mk.injEq] at hs
        obtain ⟨v', hv', rfl, rfl⟩ := hs
        exact step_field h hF o hu hfd hos hv' ho
      · cases hc
    · cases hc
  case indexAddr T x i =>
    simp only [ho, compOp] at hc
    split at hc
    · rename_i elem hu
      simp only [Option.map_eq_some_iff] at hc
      obtain ⟨s, hk, rfl⟩ := hc
      simp only [stepAt, Option.map_eq_some_iff, Prod.mk.injEq] at hs
      obtain ⟨v', hv', rfl, rfl⟩ := hs
      exact step_iaddr h hF o hu hk hv' ho
    · rename_i len elem hu
      simp only [Option.map_eq_some_iff] at hc
      obtain ⟨s, hk, rfl⟩ := hc
      simp only [stepAt, Option.map_eq_some_iff, Prod.mk.injEq] at hs
      obtain ⟨v', hv', rfl, rfl⟩ := hs
      exact step_iaddrA h hF o hu hk hv' ho
    · cases hc
  case index T x i =>
    simp only [ho, compOp] at hc
    split at hc
    · rename_i hu
      simp only [Option.some.injEq] at hc; subst hc
      simp only [stepAt, Option.map_eq_some_iff, Prod.mk.injEq] at hs
      obtain ⟨v', hv', rfl, rfl⟩ := hs
      exact step_indexS h hF o hu hv' ho
    · cases hc
  case extract x i =>
    simp only [ho, compOp, Option.some.injEq] at hc; subst hc
    simp only [stepAt] at hs
    split at hs
    · rename_i l hl
      simp only [Option.map_eq_some_iff, Prod.mk.injEq] at hs
      obtain ⟨v', hv', rfl, rfl⟩ := hs
      exact step_extract h hF o hl hv' ho
    · cases hs
  case call c =>
    simp only [ho, compOp] at hc
    split at hc
    · simp only [Option.some.injEq] at hc; subst hc
      simp [stepAt] at hs
    · rename_i hcal
      split at hc
      · rename_i T x hT hx
        have hat : c.argTypes = #[T] := by rw [← Array.toArray_toList (xs := c.argTypes), hT]
        have hax : c.args = #[x] := by rw [← Array.toArray_toList (xs := c.args), hx]
        split at hc
        · rename_i hu
          simp only [Option.some.injEq] at hc; subst hc
          simp only [stepAt, Option.map_eq_some_iff, Prod.mk.injEq] at hs
          obtain ⟨m, hm, rfl, rfl⟩ := hs
          exact step_len h hF o (st := true) hu hm hcal hat hax ho
        · rename_i e hu
          simp only [Option.some.injEq] at hc; subst hc
          simp only [stepAt, Option.map_eq_some_iff, Prod.mk.injEq] at hs
          obtain ⟨m, hm, rfl, rfl⟩ := hs
          exact step_len h hF o (st := false) ⟨e, hu⟩ hm hcal hat hax ho
        · cases hc
      · cases hc
    · rename_i hcal
      split at hc
      · rename_i T U s x hT hx
        have hat : c.argTypes = #[T, U] := by rw [← Array.toArray_toList (xs := c.argTypes), hT]
        have hax : c.args = #[s, x] := by rw [← Array.toArray_toList (xs := c.args), hx]
        have fin : ∀ {e : TypeId} {i : TypeInfo} {du : TypeDesc}, C.P.underlying T = some (.slice e) → C.P.underlying U = some du → (∀ k, du ≠ .int k) → C.P.info? e = some i → i.zero.any (fun z => z.cells.size = i.size) = true → 0 < i.size → 0 < i.bytes →
            appendA C pl H e i.size i.bytes (evalO t (cO s)) (evalO t (cO x)) = some (v, H') → Outc C σ pl ((execOp a.eval o).run C.P w) v H' := by
          intro e i du h1 h2 h3 h4 h5 h6 h7 h9
          obtain ⟨z, hz, hzs⟩ : ∃ z, i.zero = some z ∧ z.cells.size = i.size := by
            cases hz : i.zero with
            | none => rw [hz] at h5; simp at h5
            | some z => rw [hz] at h5; exact ⟨z, rfl, by simpa using h5⟩
          obtain ⟨cv, w', σ', hr, hp, hv, hrep⟩ := step_append (ty := o.type) h h1 h2 h3 h4 hz hzs h6 h7 hp (relO hF s) (relO hF x) h9
          exact ⟨_, cv, w', σ', by simp [execOp, ho, resolve, hcal, hat, hax, invoke, builtin, hr], .inl rfl, hp, hv, hrep⟩
        split at hc
        · rename_i elem elem' hu1 hu2
          split at hc
          · rename_i i hi
            split at hc
            · rename_i hcond
              obtain ⟨c1, c2, c3, c4⟩ := hcond
              simp only [Option.some.injEq] at hc; subst hc
              simp only [stepAt] at hs
              exact fin hu1 hu2 (by simp) hi c4 c1 c3 hs
            · cases hc
          · cases hc
        · rename_i elem hu1 hu2
          split at hc
          · rename_i i hi _
            split at hc
            · rename_i hcond
              obtain ⟨c1, c2, c3⟩ := hcond
              simp only [Option.some.injEq] at hc; subst hc
              simp only [stepAt] at hs
              exact fin hu1 hu2 (by simp) hi c3 (by omega) c2 hs
            · cases hc
          · cases hc
        · cases hc
      · cases hc
    · rename_i hcal
      split at hc
      · rename_i T x hT hx
        have hat : c.argTypes = #[T] := by rw [← Array.toArray_toList (xs := c.argTypes), hT]
        have hax : c.args = #[x] := by rw [← Array.toArray_toList (xs := c.args), hx]
        split at hc
        · rename_i elem hu
          split at hc
          · rename_i i hi
            split at hc
            · rename_i z hz
              split at hc
              · rename_i hcond
                obtain ⟨c1, c2, c3⟩ := hcond
                simp only [Option.some.injEq] at hc; subst hc
                simp only [stepAt, Option.map_eq_some_iff, Prod.mk.injEq] at hs
                obtain ⟨H2, hH2, rfl, rfl⟩ := hs
                obtain ⟨w', hr, hrep⟩ := step_clear (ty := o.type) h hu hi hz c2 c3 (relO hF x) hH2
                refine ⟨_, .tuple #[], w', σ, by simp [execOp, ho, resolve, hcal, hat, hax, invoke, builtin, hr], .inl rfl, .inl rfl, ?_, hrep⟩
                simp only [relV]
                exact ⟨#[], rfl, by simp [relL]⟩
              · cases hc
            · cases hc
          · cases hc
        · cases hc
      · cases hc
    · cases hc
  all_goals (simp [ho, compOp] at hc)

end Go.F
