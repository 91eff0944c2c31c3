/-
  OWN WORK (an AI agent). ScriptJoins: the row, over the walk in L21m.
-/
import Derived.Test.YtfbkogaijopcgaaRows
import Derived.ProofKit
import Derived.Test.YtfbkogaijopcgaaFL21m
import Derived.Test.YtfbkogaijopcgaaFS
set_option linter.all false
namespace Go.Proofs.Ytfbkogaijopcgaa
open Go.ChangeShapes Go.WideShapes Go.ChangeAt Go.RowKit

theorem Try.own : ownKnob Try.prog.godebug = none := by kernel_rfl
theorem Try.laidOut : laidOutB Try.prog = true := by kernel_rfl
theorem Try.shape22 : Go.F.shapeT Try.prog 8 22 = some [.sl [.int .u8]] := by kernel_rfl

open Go.F in
theorem bs_of {P : Program} {w : World} {v : Value} (h : SVal w (.sl [.int .u8]) v) : ∃ l, Bs (Ctx.all P w) [] (baseV v) l ∧ (baseV v).lt 0 ∧ okB l := by
  obtain ⟨f, n, h1, h2, h3, h4, h5, h6⟩ := h.ints (P := P) [.u8] rfl (by simp)
  refine ⟨(List.range n).map fun i => f i 0, ⟨?_, h2⟩, h3, ?_⟩
  · have e : ((List.range n).flatMap fun i => (List.range [Sh.int .u8].length).map fun k => AVal.int ([IntKind.u8].getD k .i64) (f i k)) = byteC ((List.range n).map fun i => f i 0) := by
      unfold byteC
      rw [List.map_map, List.flatMap_def]
      have : ∀ l : List Nat, (l.map fun i => (List.range [Sh.int .u8].length).map fun k => AVal.int ([IntKind.u8].getD k .i64) (f i k)).flatten = l.map (AVal.int .u8 ∘ fun i => f i 0) := by
        intro l
        induction l with
        | nil => rfl
        | cons i l ih => rw [List.map_cons, List.flatten_cons, ih]; rfl
      exact this _
    rw [List.length_map, List.length_range]
    exact h6.trans (congrArg (fun l => some (n, l)) e)
  · intro c hc
    simp only [List.mem_map, List.mem_range] at hc
    obtain ⟨i, hi, rfl⟩ := hc
    have := h5 i 0 .u8 hi rfl
    simp [Lit.wf, IntKind.min, IntKind.max, IntKind.signed, IntKind.bits] at this
    omega

set_option maxRecDepth 100000 in
theorem scriptJoins_lifted (os : Os) (started : os.Started) (H : Type) (enc : TypeId × Value → H) :
    ReturnsInHanded {} Try.checked os 3 .any (Rows.scriptJoinsSpec.pre6 enc Try.prog Try.f3 Rows.scriptJoinsRow.domain false) (Rows.scriptJoinsSpec.post enc Try.prog Try.f3 false true false false) := by
  refine returnsInHanded_of_change (C := Try.checked) Try.own started (by kernel_rfl) Try.func3
    (ChangeSpec.witness6 (enc := enc) (C := Try.checked) false ⟨#[], #[.slice none 0 0, .slice none 0 0], []⟩ 8 (by kernel_rfl) (by kernel_rfl) (by kernel_rfl) (by kernel_rfl)) ?_
  intro W base args ds gs before hval0 hW _ _
  have hval : ∀ (j : Nat) t v, Try.f3.params[j]? = some t → args[j]? = some v → Value.okWide Try.prog W .any base t v := hval0
  have hW' := hW
  obtain ⟨p, q, hA0, hV, rfl, _, _⟩ := hW
  have hA : DataW.TrodAll enc Try.prog W 0 (fun _ => true) true Try.f3.params.toList args.toList ds p := hA0
  rw [Try.params3] at hA hval
  obtain ⟨v0, v1, d0, d1, p0, p1, rfl, rfl, rfl, h0, h1⟩ := trodAll_two hA
  obtain ⟨rfl, rfl⟩ := trodVars_none hV
  obtain ⟨a0, len0, cap0, rfl⟩ := okWide_slice Try.underlying22 (hval 0 22 v0 rfl rfl)
  obtain ⟨a1, len1, cap1, rfl⟩ := okWide_slice Try.underlying22 (hval 1 22 v1 rfl rfl)
  clear hA0 hval0
  have hlt : ∀ x ∈ p0 ++ p1, x.block < W.heap.size := fun x hx => by simpa using hW'.lt x (by simpa using hx)
  simp only [List.append_nil] at hW'
  have h0k := h0
  have h1k := h1
  obtain ⟨f0, hf0⟩ := h0
  obtain ⟨f1, hf1⟩ := h1
  have hc0 := Go.F.trod_cells f0 8 22 _ _ _ hf0 Try.shape22
  have hc1 := Go.F.trod_cells f1 8 22 _ _ _ hf1 Try.shape22
  obtain ⟨c0, r0, e0, hs0, hr0⟩ := hc0
  obtain ⟨c1, r1, e1, hs1, hr1⟩ := hc1
  simp only [Go.F.SCells] at hr0 hr1
  subst hr0 hr1
  have e0' : [Value.slice a0 len0 cap0] = [c0] := e0
  have e1' : [Value.slice a1 len1 cap1] = [c1] := e1
  simp only [List.cons.injEq, and_true] at e0' e1'
  subst e0' e1'
  obtain ⟨A, hA, lA, oA⟩ := bs_of (P := Try.prog) hs0
  obtain ⟨B, hB, lB, oB⟩ := bs_of (P := Try.prog) hs1
  refine (Go.F.FCalls.answers (joins_calls _ rfl hA hB lA lB oA oB) (Go.F.relL_constV [] [Value.slice a0 len0 cap0, Value.slice a1 len1 cap1])).mono fun e W' ⟨he, hb⟩ => ?_
  subst he
  exact ⟨_, rfl, ⟨_, _, _, [], _, [], hW', trodAll_mk1 (shut_bool Try.underlying4 _), trodAll_mk2 (Below.trod Try.laidOut (by kernel_rfl) (of_decide_eq_true (by kernel_rfl)) h0k hb fun x hx => hlt x (List.mem_append_left _ hx)) (Below.trod Try.laidOut (by kernel_rfl) (of_decide_eq_true (by kernel_rfl)) h1k hb fun x hx => hlt x (List.mem_append_right _ hx)), rfl, hb.frame _, fun h => by cases h⟩⟩

theorem scriptJoins_holds : Rows.ScriptJoinsSaid :=
  OpenClaim.holds_of_wide 3 Try.f3 rfl rfl rfl rfl rfl rfl rfl ⟨rfl, rfl, rfl, rfl, rfl⟩ rfl rfl rfl rfl rfl (by kernel_rfl) Try.func3 (by kernel_rfl)
    (of_decide_eq_true (by kernel_rfl)) (by unfold Func.isWrapper; rw [if_neg (by decide +kernel)]; exact ⟨rfl, rfl⟩)
    (fun os started H enc _ => scriptJoins_lifted os started H enc)

end Go.Proofs.Ytfbkogaijopcgaa
