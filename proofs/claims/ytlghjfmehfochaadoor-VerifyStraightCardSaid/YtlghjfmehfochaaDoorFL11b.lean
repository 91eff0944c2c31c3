/-
  OWN WORK (an AI agent). Part L11b of a walk by simplification over abstract heaps.
-/
import Derived.Test.YtlghjfmehfochaaDoorFL11a
import Derived.Test.YtlghjfmehfochaaDoorFP
set_option linter.all false
set_option linter.unusedSimpArgs false
set_option linter.unusedVariables false
set_option maxRecDepth 20000
namespace Go.Proofs.YtlghjfmehfochaaDoor
open Go.F Go.RowKit

theorem between_calls (C : Ctx) (hP : C.P = Tryd.prog) (n lo hi : Int) (H : AHeap) : FCalls C 18 [.int .i64 n, .int .i64 lo, .int .i64 hi] H (fun v H' => v = .bool (decide (lo ≤ n) && decide (n ≤ hi)) ∧ H' = H) := by
  refine FCalls.entry (hP ▸ v18) (by simp [e18]) fun _ _ => FWx_sound ?_
  by_cases h : lo ≤ n
  · simp (implicitDefEqProofs := false) [e18, c18, h]
    refine retQ_ret (Nat.le_refl _) ?_
    simp
  · simp (implicitDefEqProofs := false) [e18, c18, h]
    refine retQ_ret (Nat.le_refl _) ?_
    simp

theorem leads_straight (C : Ctx) (hP : C.P = Tryd.prog) (op : Int) (H : AHeap) (h : op = 0 ∨ op = 4 ∨ op = 27) : FCalls C 28 [.int .i64 op] H (fun v H' => v = .tup [.bool (decide (op ≠ 27)), .bool false] ∧ H' = H) := by
  refine FCalls.entry (hP ▸ v28) (by simp [e28]) fun _ _ => FWx_sound ?_
  rcases h with rfl | rfl | rfl
  all_goals
    simp (implicitDefEqProofs := false) [e28, c28]
    refine retQ_ret (Nat.le_refl _) ?_
    simp

/-- the tables, as they are laid -/
def takesL : List Int := [0, 0, 0, 0, 1, 0, 1, 0, 0, 1, 0, 1, 0, 1, 0, 0, 0, 2, 1, 1, 0, 1, 1, 1, 0, 1, 1, 1, 1, 2, 3, 1, 2]
def putsL : List Int := [1, 1, 1, 1, 0, 1, 0, 0, 1, 0, 1, 0, 1, 0, 1, 1, 1, 1, 1, 1, 0, 0, 0, 0, 0, 1, 1, 0, 0, 1, 0, 1, 0]
def Tab (C : Ctx) : Prop := (∀ (i : Nat), i < 33 → ∃ s : ByteArray, C.B ⟨0, i, none⟩ = some (.str s) ∧ s.toList ≠ []) ∧ (∀ (i : Nat) (n : Int), takesL[i]? = some n → C.B ⟨1, i, none⟩ = some (.int .i64 n)) ∧ (∀ (i : Nat) (n : Int), putsL[i]? = some n → C.B ⟨2, i, none⟩ = some (.int .i64 n))

theorem Tab.le {C C' : Ctx} (h : Tab C) (hc : C.le C') : Tab C' := ⟨fun i hi => (h.1 i hi).imp fun s hs => ⟨hc.2 _ _ hs.1, hs.2⟩, fun i n hi => hc.2 _ _ (h.2.1 i n hi), fun i n hi => hc.2 _ _ (h.2.2 i n hi)⟩

theorem effect_straight (C : Ctx) (hP : C.P = Tryd.prog) (hT : Tab C) (op a : Int) (x1 x2 x3 x4 : AVal) (H : AHeap) (h : op = 0 ∨ op = 4 ∨ op = 27) :
    FCalls C 27 [.agg [x1, x2, x3, x4], .agg [.int .i64 op, .int .i64 a, .int .i64 0]] H (fun v H' => v = .tup [.int .i64 (if op = 0 then 0 else 1), .int .i64 (if op = 0 then 1 else 0), .int .i64 0] ∧ H' = H) := by
  refine FCalls.entry (hP ▸ v27) (by simp [e27]) fun hw _ => FWx_sound ?_
  have t1 := hT.2.1
  have t2 := hT.2.2
  rcases h with rfl | rfl | rfl
  · simp (implicitDefEqProofs := false) [e27, c27, boxA, cellsOf, Addr.add, t1 0 0 rfl, t2 0 1 rfl]
    refine retQ_drop rfl hw ?_
    simp [AVal.lt, ltL]
  · simp (implicitDefEqProofs := false) [e27, c27, boxA, cellsOf, Addr.add, t1 4 1 rfl, t2 4 0 rfl]
    refine retQ_drop rfl hw ?_
    simp [AVal.lt, ltL]
  · simp (implicitDefEqProofs := false) [e27, c27, boxA, cellsOf, Addr.add, t1 27 1 rfl, t2 27 0 rfl]
    refine retQ_drop rfl hw ?_
    simp [AVal.lt, ltL]

theorem name_straight (C : Ctx) (hP : C.P = Tryd.prog) (hT : Tab C) (op : Int) (H : AHeap) (h : op = 4 ∨ op = 27) : FCalls C 24 [.int .i64 op] H (fun v H' => (∃ s : ByteArray, v = .str s ∧ s.toList ≠ []) ∧ H' = H) := by
  refine FCalls.entry (hP ▸ v24) (by simp [e24]) fun _ _ => FWx_sound ?_
  rcases h with rfl | rfl
  · obtain ⟨s, h1, h2⟩ := hT.1 4 (by decide)
    simp (implicitDefEqProofs := false) [e24, c24, Addr.add, h1]
    refine retQ_ret (Nat.le_refl _) ?_
    simp [h2]
  · obtain ⟨s, h1, h2⟩ := hT.1 27 (by decide)
    simp (implicitDefEqProofs := false) [e24, c24, Addr.add, h1]
    refine retQ_ret (Nat.le_refl _) ?_
    simp [h2]

theorem emptyB : (⟨#[]⟩ : ByteArray).toList = [] := by decide +kernel

theorem instr_straight (C : Ctx) (hP : C.P = Tryd.prog) (hT : Tab C) (x1 x2 x3 x4 y0 y1 y2 y3 y4 y5 : AVal) (k : Nat) (c : Addr) (op a : Int) (H : AHeap) (h : (op = 0 ∧ -2305843009213693952 ≤ a ∧ a ≤ 2305843009213693951) ∨ (op = 4 ∧ a = 0) ∨ (op = 27 ∧ a = 0))
    (hi : iaddrO 3 y4 (.int .i64 k) = some (.ptr (.base c))) (h0 : C.B (c.add 0) = some (.int .i64 op)) (h1 : C.B (c.add 1) = some (.int .i64 a)) (h2 : C.B (c.add 2) = some (.int .i64 0)) :
    FCalls C 13 [.agg [x1, x2, x3, x4], .agg [y0, y1, y2, y3, y4, y5], .int .i64 k] H (fun v H' => v = .int .i64 0 ∧ H' = H) := by
  refine FCalls.entry (hP ▸ v13) (by simp [e13]) fun hw _ => FWx_sound (FWx.hide fun Q hQ => ?_)
  rcases h with ⟨rfl, ha, hb⟩ | ⟨rfl, rfl⟩ | ⟨rfl, rfl⟩
  · simp (implicitDefEqProofs := false) [e13, c13, boxA, cellsOf, hi, h0, h1, h2, storeA, setL, scalar]
    refine FWops_callR rfl (by simp) (between_calls C hP a (-2305843009213693952) 2305843009213693951 _) ?_
    rintro v H' ⟨rfl, rfl⟩
    simp (implicitDefEqProofs := false) [ha, hb]
    rw [hQ]
    refine retQ_drop rfl hw ?_
    simp [AVal.lt, ltL, e13]
  · simp (implicitDefEqProofs := false) [e13, c13, boxA, cellsOf, hi, h0, h1, h2, storeA, setL, scalar]
    refine FWops_callR rfl (by simp) (name_straight C hP hT 4 _ (.inl rfl)) ?_
    rintro v H' ⟨⟨s, rfl, hs⟩, rfl⟩
    simp (implicitDefEqProofs := false) [emptyB, hs]
    refine FWops_callR rfl (by simp) (between_calls C hP 0 0 0 _) ?_
    rintro v H' ⟨rfl, rfl⟩
    simp (implicitDefEqProofs := false)
    rw [hQ]
    refine retQ_drop rfl hw ?_
    simp [AVal.lt, ltL, e13]
  · simp (implicitDefEqProofs := false) [e13, c13, boxA, cellsOf, hi, h0, h1, h2, storeA, setL, scalar]
    refine FWops_callR rfl (by simp) (name_straight C hP hT 27 _ (.inr rfl)) ?_
    rintro v H' ⟨⟨s, rfl, hs⟩, rfl⟩
    simp (implicitDefEqProofs := false) [emptyB, hs]
    refine FWops_callR rfl (by simp) (between_calls C hP 0 0 0 _) ?_
    rintro v H' ⟨rfl, rfl⟩
    simp (implicitDefEqProofs := false)
    rw [hQ]
    refine retQ_drop rfl hw ?_
    simp [AVal.lt, ltL, e13]

theorem index30_empty (C : Ctx) (hP : C.P = Tryd.prog) (x f : AVal) (H : AHeap) (hx : lenV false x = some (.int .i64 0)) : FCalls C 30 [x, f] H (fun v H' => v = .int .i64 (-1) ∧ H' = H) := by
  refine FCalls.entry (hP ▸ v30) (by simp [e30]) fun hw _ => FWx_sound (FWx.hide fun Q hQ => ?_)
  simp (implicitDefEqProofs := false) [e30, c30, hx]
  refine FW.loop_exit ?_
  simp (implicitDefEqProofs := false)
  rw [hQ]
  refine retQ_ret (Nat.le_refl _) ?_
  simp [e30]

theorem contains21_empty (C : Ctx) (hP : C.P = Tryd.prog) (x f : AVal) (H : AHeap) (hx : lenV false x = some (.int .i64 0)) : FCalls C 21 [x, f] H (fun v H' => v = .bool false ∧ H' = H) := by
  refine FCalls.entry (hP ▸ v21) (by simp [e21]) fun hw _ => FWx_sound (FWx.hide fun Q hQ => ?_)
  simp (implicitDefEqProofs := false) [e21, c21]
  refine FWops_callR rfl (by simp) (index30_empty C hP x f H hx) ?_
  rintro v H' ⟨rfl, rfl⟩
  simp (implicitDefEqProofs := false)
  rw [hQ]
  refine retQ_ret (Nat.le_refl _) ?_
  simp [e21]

theorem frame_straight (C : Ctx) (hP : C.P = Tryd.prog) (y2 y3 y4 y5 : AVal) (first : Bool) (L : Nat) (H : AHeap) (h1 : 1 ≤ L) (h2 : L ≤ 65536)
    (e2 : lenV false y2 = some (.int .i64 0)) (e3 : lenV false y3 = some (.int .i64 0)) (e4 : lenV false y4 = some (.int .i64 L)) :
    FCalls C 12 [.agg [.int .i64 0, .int .i64 0, y2, y3, y4, y5], .bool first] H (fun v H' => v = .int .i64 0 ∧ H' = H) := by
  refine FCalls.entry (hP ▸ v12) (by simp [e12]) fun hw _ => FWx_sound (FWx.hide fun Q hQ => ?_)
  simp (implicitDefEqProofs := false) [e12, c12, boxA, cellsOf]
  refine FWops_callR rfl (by simp) (between_calls C hP 0 0 16 _) ?_
  rintro v H' ⟨rfl, rfl⟩
  simp (implicitDefEqProofs := false)
  refine FWops_callR rfl (by simp) (between_calls C hP 0 0 256 _) ?_
  rintro v H' ⟨rfl, rfl⟩
  simp (implicitDefEqProofs := false) [e3, e4]
  refine FWops_callR rfl (by simp) (between_calls C hP L 1 65536 _) ?_
  rintro v H' ⟨rfl, rfl⟩
  have c1 : (1 : Int) ≤ L := by omega
  have c2 : (L : Int) ≤ 65536 := by omega
  cases first
  · simp (implicitDefEqProofs := false) [e2, e3, e4, c1, c2]
    refine FW.loop_exit ?_
    simp (implicitDefEqProofs := false)
    refine FWops_callR rfl (by simp) (contains21_empty C hP y3 (.fn 22 []) _ e3) ?_
    rintro v H' ⟨rfl, rfl⟩
    simp (implicitDefEqProofs := false)
    rw [hQ]
    refine retQ_drop rfl hw ?_
    simp [AVal.lt, ltL, e12]
  · simp (implicitDefEqProofs := false) [e2, e3, e4, c1, c2]
    refine FW.loop_exit ?_
    simp (implicitDefEqProofs := false)
    refine FWops_callR rfl (by simp) (contains21_empty C hP y3 (.fn 22 []) _ e3) ?_
    rintro v H' ⟨rfl, rfl⟩
    simp (implicitDefEqProofs := false)
    rw [hQ]
    refine retQ_drop rfl hw ?_
    simp [AVal.lt, ltL, e12]

theorem whole_straight (C : Ctx) (hP : C.P = Tryd.prog) (x1 x2 x3 : AVal) (g : Int) (F : Nat) (H : AHeap) (h1 : 1 ≤ F) (h2 : F ≤ 1024) (h3 : 0 ≤ g) (h4 : g ≤ 1024)
    (e1 : lenV false x1 = some (.int .i64 F)) (e3 : lenV false x3 = some (.int .i64 0)) :
    FCalls C 11 [.agg [x1, x2, x3, .int .i64 g]] H (fun v H' => v = .int .i64 0 ∧ H' = H) := by
  refine FCalls.entry (hP ▸ v11) (by simp [e11]) fun hw _ => FWx_sound (FWx.hide fun Q hQ => ?_)
  simp (implicitDefEqProofs := false) [e11, c11, boxA, cellsOf, e1]
  refine FWops_callR rfl (by simp) (between_calls C hP F 1 1024 _) ?_
  rintro v H' ⟨rfl, rfl⟩
  have c1 : (1 : Int) ≤ F := by omega
  have c2 : (F : Int) ≤ 1024 := by omega
  simp (implicitDefEqProofs := false) [c1, c2]
  refine FWops_callR rfl (by simp) (between_calls C hP g 0 1024 _) ?_
  rintro v H' ⟨rfl, rfl⟩
  simp (implicitDefEqProofs := false) [h3, h4, e3]
  refine FW.loop_exit ?_
  simp (implicitDefEqProofs := false)
  rw [hQ]
  refine retQ_drop rfl hw ?_
  simp [AVal.lt, ltL, e11]

end Go.Proofs.YtlghjfmehfochaaDoor
