/-
  OWN WORK (an AI agent). VerifyStraight: the row and its card, over the walk in L11h.
-/
import Derived.Test.YtlghjfmehfochaaDoorRows
import Derived.Test.YtlghjfmehfochaaDoorCards
import Derived.Test.YtlghjfmehfochaaDoorTie
import Derived.ProofKit
import Derived.ChangeVars
import Derived.LaidLaws
import Derived.SevenTiedAt
import Derived.Test.YtlghjfmehfochaaDoorFL11h
import Derived.Test.YtlghjfmehfochaaDoorFS
set_option linter.all false
namespace Go.Proofs.YtlghjfmehfochaaDoor
open Go.ChangeShapes Go.WideShapes Go.ChangeAt Go.RowKit

theorem Tryd.own : ownKnob Tryd.prog.godebug = none := by kernel_rfl
theorem Tryd.laidOut : laidOutB Tryd.prog = true := by kernel_rfl
theorem Tryd.gNames : Tryd.prog.globalNamed "jacquard/code.names" = some 0 := by kernel_rfl
theorem Tryd.gTakes : Tryd.prog.globalNamed "jacquard/code.takes" = some 1 := by kernel_rfl
theorem Tryd.gPuts : Tryd.prog.globalNamed "jacquard/code.puts" = some 2 := by kernel_rfl
theorem Tryd.tNames : (Tryd.prog.globals[0]?).map (·.type) = some 70 := by kernel_rfl
theorem Tryd.tTakes : (Tryd.prog.globals[1]?).map (·.type) = some 71 := by kernel_rfl
theorem Tryd.tPuts : (Tryd.prog.globals[2]?).map (·.type) = some 71 := by kernel_rfl
theorem Tryd.u70 : Tryd.prog.underlying 70 = some (.array 33 9) := by kernel_rfl
theorem Tryd.u71 : Tryd.prog.underlying 71 = some (.array 33 3) := by kernel_rfl
theorem Tryd.u9 : Tryd.prog.underlying 9 = some .string := by kernel_rfl
theorem Tryd.c70 : Tryd.prog.cellsOf 70 = 33 := by kernel_rfl
theorem Tryd.c71 : Tryd.prog.cellsOf 71 = 33 := by kernel_rfl
theorem Tryd.c9 : Tryd.prog.cellsOf 9 = 1 := by kernel_rfl
theorem Tryd.c3 : Tryd.prog.cellsOf 3 = 1 := by kernel_rfl

/-- a laid array, place by place -/
theorem array_of_trod {H : Type} {enc : TypeId × Value → H} {P : Program} {w : World} {base : Nat} {sp : Nat → Bool} {held : Bool} {fuel : Nat} {t e : TypeId} {n : Nat} {cs : List Value} {parts : List (DataW H)} {p : List MemPlace}
    (hu : P.underlying t = some (.array n e)) (ct : P.cellsOf t = n) (ce : P.cellsOf e = 1) (h : DataW.trod enc P w base sp held fuel t cs = some (.agg parts, p)) :
    ∀ (i : Nat) x, parts[i]? = some x → ∃ fuel' c q, cs[i]? = some c ∧ DataW.trod enc P w base sp held fuel' e [c] = some (x, q) := by
  intro i x hx
  cases fuel with
  | zero => simp [DataW.trod] at h
  | succ fuel =>
    unfold DataW.trod at h
    rw [hu] at h
    simp only at h
    split at h
    · rename_i hl
      simp only [Option.map_eq_some_iff, Prod.mk.injEq, DataW.agg.injEq] at h
      obtain ⟨xs, hxs, rfl, _⟩ := h
      rw [List.getElem?_map, Option.map_eq_some_iff] at hx
      obtain ⟨y, hy, rfl⟩ := hx
      have hlen := mapM_some_length hxs
      rw [List.length_range] at hlen
      have hin : i < n := by
        have := (List.getElem?_eq_some_iff.1 hy).1
        omega
      have hg := mapM_some_get hxs i i (by simp [List.getElem?_range hin])
      rw [hy] at hg
      rw [ce, Nat.mul_one] at hg
      have hi : i < cs.length := by omega
      refine ⟨fuel, cs[i], y.2, List.getElem?_eq_getElem hi, ?_⟩
      rw [List.drop_eq_getElem_cons hi, List.take_succ_cons, List.take_zero] at hg
      exact hg
    · cases h

theorem int_of_trod {H : Type} {enc : TypeId × Value → H} {P : Program} {w : World} {base : Nat} {sp : Nat → Bool} {held : Bool} {fuel : Nat} {t : TypeId} {k : IntKind} {n : Int} {c : Value} {q : List MemPlace}
    (ht : P.underlying t = some (.int k)) (h : DataW.trod enc P w base sp held fuel t [c] = some (.lit (.int k n), q)) : c = .int k n := by
  cases fuel with
  | zero => simp [DataW.trod] at h
  | succ fuel =>
    cases c <;> simp [DataW.trod, ht] at h
    obtain ⟨⟨rfl, _⟩, rfl, _⟩ := h
    rfl
theorem str_of_trod {H : Type} {enc : TypeId × Value → H} {P : Program} {w : World} {base : Nat} {sp : Nat → Bool} {held : Bool} {fuel : Nat} {t : TypeId} {b : List UInt8} {c : Value} {q : List MemPlace}
    (ht : P.underlying t = some .string) (h : DataW.trod enc P w base sp held fuel t [c] = some (.lit (.string b), q)) : ∃ s : ByteArray, c = .string s ∧ s.data.toList = b := by
  cases fuel with
  | zero => simp [DataW.trod] at h
  | succ fuel =>
    cases c <;> simp [DataW.trod, ht] at h
    exact ⟨_, rfl, h.2.1⟩

def intP : DataW Unit → Option Int
  | .lit (.int .i64 n) => some n
  | _ => none
def strP : DataW Unit → Bool
  | .lit (.string (_ :: _)) => true
  | _ => false
def aggP : DataW Unit → List (DataW Unit)
  | .agg l => l
  | _ => []

theorem names_laid : (aggP Rows.laid_jacquard_code_names).length = 33 ∧ (aggP Rows.laid_jacquard_code_names).all strP = true := by decide +kernel
theorem takes_laid : (aggP Rows.laid_jacquard_code_takes).map intP = takesL.map some := by decide +kernel
theorem puts_laid : (aggP Rows.laid_jacquard_code_puts).map intP = putsL.map some := by decide +kernel

theorem base_of {w : World} {a : Addr} {v : Value} (h : w.cell? a = some v) : (Go.F.Ctx.all Tryd.prog w).B a = some (Go.F.baseV v) := by
  have hl := Go.F.cell_lt h
  show (if a.block < w.heap.size then _ else none) = _
  rw [if_pos hl]
  show (w.cell? a).map Go.F.baseV = _
  rw [h]
  rfl

theorem ints_laid {W : World} {g : Nat} {name : String} {d : DataW Unit} {L : List Int} (hg0 : Tryd.prog.globalNamed name = some g) (hd0 : d = .agg (aggP d)) (hL : (aggP d).map intP = L.map some)
    {cs : Array Value} {fuel : Nat} {p : List MemPlace} (hvar : W.var? Tryd.prog name = some cs) (hd : DataW.trod (fun _ => ()) Tryd.prog W 0 (fun _ => true) false fuel 71 cs.toList = some (d, p)) :
    ∀ (i : Nat) (n : Int), L[i]? = some n → (Go.F.Ctx.all Tryd.prog W).B ⟨g, i, none⟩ = some (.int .i64 n) := by
  intro i n hn
  rw [hd0] at hd
  have hx : ((aggP d).map intP)[i]? = some (some n) := by rw [hL, List.getElem?_map, hn]; rfl
  rw [List.getElem?_map, Option.map_eq_some_iff] at hx
  obtain ⟨x, hx, hi⟩ := hx
  obtain ⟨f', c, q, hc, ht⟩ := array_of_trod Tryd.u71 Tryd.c71 Tryd.c3 hd i x hx
  have hxe : x = .lit (.int .i64 n) := by
    unfold intP at hi
    split at hi
    · simp only [Option.some.injEq] at hi; subst hi; rfl
    · cases hi
  subst hxe
  have := int_of_trod Tryd.underlying3 ht
  subst this
  have hcell := World.var?_cell hg0 hvar i
  rw [Array.getElem?_toList] at hc
  exact base_of (hcell.trans hc)

theorem tab_of_laid {W : World} (h : laidMetH Tryd.prog Rows.verifyStraightRow.laid W) : Tab (Go.F.Ctx.all Tryd.prog W) := by
  have h' : laidMet Tryd.prog Rows.verifyStraightRow.laid W := h
  obtain ⟨ps, ⟨g, t, cs, fuel, p, q, hg, ht, hvar, hd, ⟨g1, t1, cs1, fuel1, p1, q1, hg1, ht1, hvar1, hd1, ⟨g2, t2, cs2, fuel2, p2, q2, hg2, ht2, hvar2, hd2, _, _⟩, _⟩, _⟩, _⟩ := h'
  obtain rfl := Option.some.inj (Tryd.gNames.symm.trans hg)
  obtain rfl := Option.some.inj (Tryd.tNames.symm.trans ht)
  obtain rfl := Option.some.inj (Tryd.gTakes.symm.trans hg1)
  obtain rfl := Option.some.inj (Tryd.tTakes.symm.trans ht1)
  obtain rfl := Option.some.inj (Tryd.gPuts.symm.trans hg2)
  obtain rfl := Option.some.inj (Tryd.tPuts.symm.trans ht2)
  refine ⟨fun i hi => ?_, ints_laid Tryd.gTakes rfl takes_laid hvar1 hd1, ints_laid Tryd.gPuts rfl puts_laid hvar2 hd2⟩
  have hlen := names_laid.1
  have hx : (aggP Rows.laid_jacquard_code_names)[i]? = some (aggP Rows.laid_jacquard_code_names)[i] := List.getElem?_eq_getElem (by omega)
  have hs := List.all_eq_true.1 names_laid.2 _ (List.getElem_mem (by omega : i < (aggP Rows.laid_jacquard_code_names).length))
  have hd' : DataW.trod (fun _ => ()) Tryd.prog W 0 (fun _ => true) false fuel 70 cs.toList = some (.agg (aggP Rows.laid_jacquard_code_names), p) := hd
  generalize (aggP Rows.laid_jacquard_code_names)[i] = x at hx hs
  obtain ⟨f', c, q', hc, ht'⟩ := array_of_trod Tryd.u70 Tryd.c70 Tryd.c9 hd' i x hx
  unfold strP at hs
  split at hs
  · rename_i b bs
    obtain ⟨s, rfl, hs2⟩ := str_of_trod Tryd.u9 ht'
    have hcell := World.var?_cell hg hvar i
    rw [Array.getElem?_toList] at hc
    refine ⟨s, base_of (hcell.trans hc), ?_⟩
    intro he
    rw [ByteArray.toList_eq] at he
    rw [he] at hs2
    cases hs2
  · cases hs

/-- a world whose tables are as listed -/
def valP : DataW Unit → Value
  | .lit (.int k n) => .int k n
  | .lit (.string b) => .string ⟨b.toArray⟩
  | _ => .bool false
def layAt (d : DataW Unit) : Obj → Obj
  | .cells _ t fz => .cells ((aggP d).map valP).toArray t fz
  | o => o
noncomputable def laidWorld (os : Os) : World :=
  let w0 := World.holding Tryd.prog os ⟨#[], #[], []⟩
  { w0 with heap := ((w0.heap.modify 0 (layAt Rows.laid_jacquard_code_names)).modify 1 (layAt Rows.laid_jacquard_code_takes)).modify 2 (layAt Rows.laid_jacquard_code_puts) }
set_option maxRecDepth 100000 in
theorem laidWorld_met (os : Os) (args : Array Value) : laidMetH Tryd.prog Rows.verifyStraightRow.laid ((laidWorld os).forCall (fun _ _ => 0) ⟨#[], args, []⟩).memory :=
  laidMet_of_run' 8 (by kernel_rfl) (by kernel_rfl)

set_option maxRecDepth 100000 in
theorem verifyStraight_lifted (os : Os) (started : os.Started) (H : Type) (enc : TypeId × Value → H) :
    ReturnsInHanded {} Tryd.checked os 4 .any (fun w args => (Rows.verifyStraightSpec.pre enc Tryd.prog Tryd.f4 [] false w args ∧ laidMetH Tryd.prog Rows.verifyStraightRow.laid w) ∧ sizedMet enc Tryd.prog Tryd.f4 (OpenSpec.ofChange Rows.verifyStraightSpec) false w args)
      (Rows.verifyStraightSpec.post enc Tryd.prog Tryd.f4 false true false false) := by
  refine returnsInHanded_of_change_and (C := Tryd.checked) (X := fun w _ => laidMetH Tryd.prog Rows.verifyStraightRow.laid w) (fun _ _ _ hh h => h.of_heap hh) Tryd.own started (by kernel_rfl) Tryd.func4
    (ChangeSpec.witness_at (enc := enc) (C := Tryd.checked) (os := os) (X := fun w _ => laidMetH Tryd.prog Rows.verifyStraightRow.laid w) false (laidWorld os) #[.int .i64 0] 8 rfl (by kernel_rfl) (by kernel_rfl) (by kernel_rfl) (by kernel_rfl) (by kernel_rfl) (laidWorld_met os _)) ?_
  intro W base args ds gs before hval0 hW _ _ hL _
  have hval : ∀ (j : Nat) t v, Tryd.f4.params[j]? = some t → args[j]? = some v → Value.okWide Tryd.prog W .any base t v := hval0
  have hW' := hW
  obtain ⟨p, q, hA0, hV0, rfl, hfz, hnd⟩ := hW
  have hA : DataW.TrodAll enc Tryd.prog W 0 (fun _ => true) true Tryd.f4.params.toList args.toList ds p := hA0
  have hV : DataW.TrodVars enc Tryd.prog W (fun _ => true) [] gs q := hV0
  rw [Tryd.params4] at hA hval
  obtain ⟨v0, d0, rfl, rfl, h0⟩ := trodAll_one hA
  obtain ⟨n, rfl, rfl, rfl, hwn⟩ := open_int Tryd.underlying3 (hval 0 3 v0 rfl rfl) h0
  obtain ⟨rfl, rfl⟩ := trodVars_none hV
  clear hA0 hval0
  simp only [List.append_nil] at hW'
  refine (Go.F.FCalls.answers (straight_calls _ rfl (tab_of_laid hL) n []) (Go.F.relL_constV [] [Value.int .i64 n])).mono fun e W' ⟨he, hb⟩ => ?_
  subst he
  exact ⟨_, rfl, ⟨_, _, _, [], _, [], hW', trodAll_mk1 (shut_bool Tryd.underlying4 _), trodAll_mk1 (shut_int Tryd.underlying3 hwn), rfl, hb.frame _, fun h => by cases h⟩⟩

theorem verifyStraight_row : Rows.VerifyStraightSaid :=
  OpenClaim.holds_of_wide 4 Tryd.f4 rfl rfl rfl rfl rfl rfl rfl ⟨rfl, rfl, rfl, rfl, rfl⟩ rfl rfl rfl rfl rfl (by kernel_rfl) Tryd.func4 (by kernel_rfl)
    (of_decide_eq_true (by kernel_rfl)) (by unfold Func.isWrapper; rw [if_neg (by decide +kernel)]; exact ⟨rfl, rfl⟩)
    (fun os started H enc _ => verifyStraight_lifted os started H enc)

theorem verifyStraight_holds : Rows.VerifyStraightCardSaid :=
  Claim7.holds_tied_plain_at .later [] [.data, .data, .data] true (true, "05e269ec4b136fc55d105f645d1db1a76f3946f0e7d26ed4d18a038d757d72d5") false
    verifyStraight_row (fun _ h => by cases h) (by kernel_rfl) (fun _ h => by cases h) verifyStraight_row_tie rfl ⟨rfl, rfl⟩ (by kernel_rfl) rfl
    (fun f fn hf hfn => by
      obtain rfl : f = 4 := Option.some.inj ((show Tryd.prog.funcNamed "jacquard/jacquardlaw11.VerifyStraight" = some 4 by kernel_rfl).symm.trans hf) |>.symm
      obtain rfl : fn = Tryd.f4 := (Option.some.inj (Tryd.func4.symm.trans hfn)).symm
      exact ⟨by kernel_rfl, fun j t ht => by
        rw [Tryd.params4] at ht
        have h3 : t = 3 := by
          rcases j with _ | j
          · simpa using ht.symm
          · simp at ht
        subst h3
        exact (show Tryd.prog.wantsStandIn 3 = false by kernel_rfl)⟩)
    (by kernel_rfl)

end Go.Proofs.YtlghjfmehfochaaDoor
