/-
  OWN WORK (an AI agent). ScriptErases: the row, over the walk in L21e.
-/
import Derived.Test.YtfbkogaijopcgaaRows
import Derived.ProofKit
import Derived.Test.YtfbkogaijopcgaaFL21e
import Derived.Test.YtfbkogaijopcgaaFS
set_option linter.all false
namespace Go.Proofs.Ytfbkogaijopcgaa
open Go.ChangeShapes Go.WideShapes Go.ChangeAt Go.RowKit

theorem Try.own : ownKnob Try.prog.godebug = none := by kernel_rfl
theorem Try.laidOut : laidOutB Try.prog = true := by kernel_rfl
theorem Try.shape27 : Go.F.shapeT Try.prog 8 27 = some [.sl [.int .i64, .int .i64, .int .i64, .int .i64, .int .i64, .int .i64], .sl [.int .i64]] := by kernel_rfl

open Go.F in
theorem es_of {P : Program} {w : World} {v : Value} (h : SVal w (.sl [.int .i64, .int .i64, .int .i64, .int .i64, .int .i64, .int .i64]) v) : ∃ E, Es (Ctx.all P w) [] (baseV v) E := by
  obtain ⟨f, n, h1, h2, h3, h4, h5, h6⟩ := h.ints (P := P) [.i64, .i64, .i64, .i64, .i64, .i64] rfl (by simp)
  refine ⟨(List.range n).map fun i => ⟨f i 0, f i 1, f i 2, f i 3, f i 4, f i 5⟩, ?_, h2, h3⟩
  have e : ((List.range n).flatMap fun i => (List.range [Sh.int .i64, .int .i64, .int .i64, .int .i64, .int .i64, .int .i64].length).map fun k => AVal.int ([IntKind.i64, .i64, .i64, .i64, .i64, .i64].getD k .i64) (f i k)) = entC ((List.range n).map fun i => ⟨f i 0, f i 1, f i 2, f i 3, f i 4, f i 5⟩) := by
    unfold entC
    rw [List.flatMap_map]
    rfl
  rw [List.length_map, List.length_range]
  exact h6.trans (congrArg (fun l => some (n, l)) e)

open Go.F in
theorem ds_of {P : Program} {w : World} {v : Value} (h : SVal w (.sl [.int .i64]) v) : ∃ D, Ds (Ctx.all P w) [] (baseV v) D := by
  obtain ⟨f, n, h1, h2, h3, h4, h5, h6⟩ := h.ints (P := P) [.i64] rfl (by simp)
  refine ⟨(List.range n).map fun i => f i 0, ?_, h2, h3⟩
  have e : ((List.range n).flatMap fun i => (List.range [Sh.int .i64].length).map fun k => AVal.int ([IntKind.i64].getD k .i64) (f i k)) = intC ((List.range n).map fun i => f i 0) := by
    unfold intC
    rw [List.map_map, List.flatMap_def]
    have : ∀ l : List Nat, (l.map fun i => (List.range [Sh.int .i64].length).map fun k => AVal.int ([IntKind.i64].getD k .i64) (f i k)).flatten = l.map (AVal.int .i64 ∘ fun i => f i 0) := by
      intro l
      induction l with
      | nil => rfl
      | cons i l ih => rw [List.map_cons, List.flatten_cons, ih]; rfl
    exact this _
  rw [List.length_map, List.length_range]
  exact h6.trans (congrArg (fun l => some (n, l)) e)

set_option maxRecDepth 100000 in
theorem scriptErases_lifted (os : Os) (started : os.Started) (H : Type) (enc : TypeId × Value → H) :
    ReturnsInHanded {} Try.checked os 4 .any (Rows.scriptErasesSpec.pre6 enc Try.prog Try.f4 Rows.scriptErasesRow.domain false) (Rows.scriptErasesSpec.post enc Try.prog Try.f4 false true false false) := by
  refine returnsInHanded_of_change (C := Try.checked) Try.own started (by kernel_rfl) Try.func4
    (ChangeSpec.witness6 (enc := enc) (C := Try.checked) false ⟨#[], #[.agg #[.slice none 0 0, .slice none 0 0]], []⟩ 8 (by kernel_rfl) (by kernel_rfl) (by kernel_rfl) (by kernel_rfl)) ?_
  intro W base args ds gs before hval0 hW _ _
  have hval : ∀ (j : Nat) t v, Try.f4.params[j]? = some t → args[j]? = some v → Value.okWide Try.prog W .any base t v := hval0
  have hW' := hW
  obtain ⟨p, q, hA0, hV, rfl, _, _⟩ := hW
  have hA : DataW.TrodAll enc Try.prog W 0 (fun _ => true) true Try.f4.params.toList args.toList ds p := hA0
  rw [Try.params4] at hA hval
  obtain ⟨v0, d0, rfl, rfl, h0⟩ := trodAll_one hA
  obtain ⟨rfl, rfl⟩ := trodVars_none hV
  have hok := hval 0 27 v0 rfl rfl
  unfold Value.okWide at hok
  rw [Try.underlying27] at hok
  obtain ⟨cs, rfl, _, _⟩ := hok
  clear hA0 hval0
  have hlt : ∀ x ∈ p, x.block < W.heap.size := fun x hx => by simpa using hW'.lt x (by simpa using hx)
  simp only [List.append_nil] at hW'
  have h0k := h0
  obtain ⟨fuel, hf⟩ := h0
  have hcs := Go.F.trod_cells fuel 8 27 _ _ _ hf Try.shape27
  obtain ⟨c0, r0, e0, hs0, c1, r1, rfl, hs1, hr⟩ := hcs
  simp only [Go.F.SCells] at hr
  subst hr
  have ecs : cs = #[c0, c1] := by
    have : cs.toList = [c0, c1] := e0
    rw [← Array.toArray_toList (xs := cs), this]
  subst ecs
  obtain ⟨E, hE⟩ := es_of (P := Try.prog) hs0
  obtain ⟨D, hD⟩ := ds_of (P := Try.prog) hs1
  refine (Go.F.FCalls.answers (erases_calls _ rfl _ _ E D [] hE hD) (Go.F.relL_constV [] [Value.agg #[c0, c1]])).mono fun e W' ⟨he, hb⟩ => ?_
  subst he
  exact ⟨_, rfl, ⟨_, _, _, [], _, [], hW', trodAll_mk1 (shut_bool Try.underlying4 _), trodAll_mk1 (Below.trod Try.laidOut (by kernel_rfl) (of_decide_eq_true (by kernel_rfl)) h0k hb hlt), rfl, hb.frame _, fun h => by cases h⟩⟩

theorem scriptErases_holds : Rows.ScriptErasesSaid :=
  OpenClaim.holds_of_wide 4 Try.f4 rfl rfl rfl rfl rfl rfl rfl ⟨rfl, rfl, rfl, rfl, rfl⟩ rfl rfl rfl rfl rfl (by kernel_rfl) Try.func4 (by kernel_rfl)
    (of_decide_eq_true (by kernel_rfl)) (by unfold Func.isWrapper; rw [if_neg (by decide +kernel)]; exact ⟨rfl, rfl⟩)
    (fun os started H enc _ => scriptErases_lifted os started H enc)

end Go.Proofs.Ytfbkogaijopcgaa
