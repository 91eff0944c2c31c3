/-
  OWN WORK (an AI agent). Part L21g of a walk by simplification over abstract heaps.
-/
import Derived.Test.YtfbkogaijopcgaaFL21d
set_option linter.all false
set_option linter.unusedSimpArgs false
set_option linter.unusedVariables false
set_option maxRecDepth 20000
namespace Go.Proofs.Ytfbkogaijopcgaa
open Go.F Go.RowKit

def byteC (l : List Int) : List AVal := l.map (.int .u8)
theorem byteC_length (l : List Int) : (byteC l).length = l.length := by simp [byteC]
theorem byteC_scalar (l : List Int) : (byteC l).all scalar = true := by
  simp only [byteC, List.all_map, List.all_eq_true]
  intro e _
  rfl
theorem byteC_flat (l : List Int) : (byteC l).all flatV = true := by
  simp only [byteC, List.all_map, List.all_eq_true]
  intro e _
  rfl

/-- a slice of bytes -/
structure Bs (C : Ctx) (H : AHeap) (x : AVal) (l : List Int) : Prop where
  src : srcCells C H 1 x = some (l.length, byteC l)
  ns : ∀ s, x ≠ .str s

theorem Bs.sl {C : Ctx} {H : AHeap} {x : AVal} {l : List Int} (h : Bs C H x l) : Sl C H 1 x l.length (byteC l) := ⟨h.src, by simp [byteC], byteC_scalar l⟩
theorem Bs.app {C : Ctx} {H L : AHeap} {x : AVal} {l : List Int} (h : Bs C H x l) : Bs C (H ++ L) x l := ⟨srcCells_app h.src, h.ns⟩
theorem Bs.lenV {C : Ctx} {H : AHeap} {x : AVal} {l : List Int} (h : Bs C H x l) : lenV false x = some (.int .i64 l.length) := h.sl.lenV h.ns
theorem Bs.set {C : Ctx} {H : AHeap} {x : AVal} {l : List Int} (h : Bs C H x l) {r : Nat} (hr : r ∉ idA x) (o : Option ABlk) : Bs C (H.set r o) x l :=
  ⟨(srcCells_congr fun id hid => hget_set_ne (fun e => hr (by rw [← e]; exact hid))).trans h.src, h.ns⟩

/-- the bytes of a reader that stands at r -/
structure Rdr (C : Ctx) (H : AHeap) (r : Nat) (xb : AVal) (bs : List Int) : Prop where
  lt : r < H.length
  bs : Bs C H xb bs
  ni : r ∉ idA xb

theorem Rdr.idx {C : Ctx} {H : AHeap} {r : Nat} {xb : AVal} {bs : List Int} (h : Rdr C H r xb bs) {i : Nat} {e : Int} (he : bs[i]? = some e) :
    ∃ p, iaddrO 1 xb (.int .i64 i) = some (.ptr p) ∧ ∀ o, ldc C (H.set r o) p 0 = some (.int .u8 e) := by
  obtain ⟨p, h1, h2, h3⟩ := h.bs.sl.idx h.bs.ns (List.getElem?_eq_some_iff.1 he).1
  refine ⟨p, h1, fun o => ?_⟩
  have := h3 [] 0 (by omega)
  rw [List.append_nil] at this
  rw [ldc_congr (H := H) (fun id hid => hget_set_ne (fun e => h.ni (by rw [← e, ← h2]; exact hid))), this]
  simp [byteC, he]

/-- a reader's block -/
def rb (xb : AVal) (a e : Int) : ABlk := ⟨[xb, .int .i64 a, .int .i64 e], 43⟩

def RH (H : AHeap) (r : Nat) (xb : AVal) (a e : Int) : AHeap := H.set r (some (rb xb a e))

theorem hget_self {H : AHeap} {r : Nat} {x : Option ABlk} (h : r < H.length) : hget (H.set r x) r = x := hget_set_same h

theorem fail_calls (C : Ctx) (hP : C.P = Try.prog) {H : AHeap} {r : Nat} {xb : AVal} {bs : List Int} (hR : Rdr C H r xb bs) (a a' e' : Int) :
    FCalls C 22 [.ptr (.loc r 0), .int .i64 e', .int .i64 a'] (RH H r xb a 0) (fun v H' => H' = RH H r xb a' e') := by
  refine FCalls.entry (hP ▸ v22) (by simp [e22]) fun hw _ => FWx_sound ?_
  simp (implicitDefEqProofs := false) [e22, c22, RH, rb, hget_self, hR.lt, storeA, cellsOf, setL]
  refine retQ_end (by first | exact Nat.le_refl _ | simp [RH]) ?_
  simp [RH, rb]

def isDig (c : Int) : Bool := decide (48 ≤ c) && decide (c ≤ 57)
def digAt (bs : List Int) (a : Nat) : Bool := match bs[a]? with | some c => isDig c | none => false

theorem digit_calls (C : Ctx) (hP : C.P = Try.prog) {H : AHeap} {r : Nat} {xb : AVal} {bs : List Int} (hR : Rdr C H r xb bs) (a : Nat) (e : Int) :
    FCalls C 23 [.ptr (.loc r 0)] (RH H r xb a e) (fun v H' => v = .bool (digAt bs a) ∧ H' = RH H r xb a e) := by
  refine FCalls.entry (hP ▸ v23) (by simp [e23]) fun hw _ => FWx_sound ?_
  by_cases h : a < bs.length
  · have h' : (a : Int) < bs.length := by omega
    obtain ⟨p, p1, p2⟩ := hR.idx (i := a) (e := bs[a]) (by simp [h])
    by_cases c1 : 48 ≤ bs[a]
    · simp (implicitDefEqProofs := false) [e23, c23, RH, rb, hget_self, hR.lt, hR.bs.lenV, h', p1, p2, c1]
      refine retQ_ret (by first | exact Nat.le_refl _ | simp [RH]) ?_
      simp [RH, rb, digAt, isDig, h, c1]
    · simp (implicitDefEqProofs := false) [e23, c23, RH, rb, hget_self, hR.lt, hR.bs.lenV, h', p1, p2, c1]
      refine retQ_ret (by first | exact Nat.le_refl _ | simp [RH]) ?_
      simp [RH, rb, digAt, isDig, h, c1]
  · have h' : ¬ (a : Int) < bs.length := by omega
    simp (implicitDefEqProofs := false) [e23, c23, RH, rb, hget_self, hR.lt, hR.bs.lenV, h']
    refine retQ_ret (by first | exact Nat.le_refl _ | simp [RH]) ?_
    have : bs[a]? = none := by simp; omega
    simp [RH, rb, digAt, this]

theorem between_calls (C : Ctx) (hP : C.P = Try.prog) (n lo hi : Int) (H : AHeap) : FCalls C 24 [.int .i64 n, .int .i64 lo, .int .i64 hi] H (fun v H' => v = .bool (decide (lo ≤ n) && decide (n ≤ hi)) ∧ H' = H) := by
  refine FCalls.entry (hP ▸ v24) (by simp [e24]) fun _ _ => FWx_sound ?_
  by_cases h : lo ≤ n
  · simp (implicitDefEqProofs := false) [e24, c24, h]
    refine retQ_ret (Nat.le_refl _) ?_
    simp
  · simp (implicitDefEqProofs := false) [e24, c24, h]
    refine retQ_ret (Nat.le_refl _) ?_
    simp

/-- a text that must stand there: so many that do, and the error -/
def wantL : List Int → List Int → Nat × Int
  | [], _ => (0, 0)
  | _ :: _, [] => (0, 6)
  | c :: s, x :: r => if x = c then ((wantL s r).1 + 1, (wantL s r).2) else (0, 6)

def bytesI (s : ByteArray) : List Int := s.data.toList.map fun b => (b.toNat : Int)

theorem bytesI_get (s : ByteArray) (i : Nat) : (bytesI s)[i]? = (s[i]?).map fun b => (b.toNat : Int) := by
  unfold bytesI
  rw [List.getElem?_map, Array.getElem?_toList]
  rfl
theorem bytesI_length (s : ByteArray) : (bytesI s).length = s.size := by simp [bytesI]

def wantI (s : ByteArray) (H : AHeap) (r : Nat) (xb : AVal) (bs : List Int) (a : Nat) (t : Fr) (H' : AHeap) (m : Nat) : Prop :=
  ∃ i : Nat, t 0 = .ptr (.loc r 0) ∧ t 1 = .str s ∧ t 4 = .int .i64 i ∧ i ≤ s.size ∧ a + i ≤ bs.length ∧ H' = RH H r xb ((a + i : Nat) : Int) 0 ∧
    wantL (bytesI s) (bs.drop a) = (i + (wantL ((bytesI s).drop i) (bs.drop (a + i))).1, (wantL ((bytesI s).drop i) (bs.drop (a + i))).2) ∧ m = s.size - i

theorem want_calls (C : Ctx) (hP : C.P = Try.prog) {H : AHeap} {r : Nat} {xb : AVal} {bs : List Int} (hR : Rdr C H r xb bs) (a : Nat) (e : Int) (s : ByteArray) (ha : a ≤ bs.length) (hl : bs.length ≤ 1000000) (hs : s.size ≤ 1000) :
    FCalls C 17 [.ptr (.loc r 0), .str s] (RH H r xb a e) (fun v H' => H' = if e = 0 then RH H r xb ((a + (wantL (bytesI s) (bs.drop a)).1 : Nat) : Int) (wantL (bytesI s) (bs.drop a)).2 else RH H r xb a e) := by
  refine FCalls.entry (hP ▸ v17) (by simp [e17]) fun hw _ => FWx_sound (FWx.hide fun Q hQ => ?_)
  by_cases he : e = 0
  rotate_left
  · simp (implicitDefEqProofs := false) [e17, c17]
    refine FW.loop_exit ?_
    by_cases h0 : 0 < s.size
    · have h0' : (0 : Int) < s.size := by omega
      simp (implicitDefEqProofs := false) [RH, rb, hget_self, hR.lt, he, h0, h0', hQ]
      refine retQ_end (by first | exact Nat.le_refl _ | simp [RH]) ?_
      simp [RH, rb, e17]
    · have h0' : ¬ (0 : Int) < s.size := by omega
      simp (implicitDefEqProofs := false) [RH, rb, hget_self, hR.lt, he, h0, h0', hQ]
      refine retQ_end (by first | exact Nat.le_refl _ | simp [RH]) ?_
      simp [RH, rb, e17]
  subst he
  simp (implicitDefEqProofs := false) [e17, c17]
  refine FW.loop (wantI s H r xb bs a) s.size ⟨0, by simp, by simp, by simp, by omega, by omega, rfl, by simp, by omega⟩ ?_
  rintro t H' m ⟨i, t0, t1, t4, hi, hai, rfl, hw1, rfl⟩
  refine FWx_sound (FWx.hide fun Q1 hQ1 => ?_)
  by_cases h : i < s.size
  · have h' : (i : Int) < s.size := by omega
    obtain ⟨b, hb⟩ : ∃ b, s[i]? = some b := ⟨s[i], by simp [h]⟩
    have hbi : (bytesI s)[i]? = some (b.toNat : Int) := by rw [bytesI_get, hb]; rfl
    have hd : (bytesI s).drop i = (b.toNat : Int) :: (bytesI s).drop (i + 1) := by
      obtain ⟨h1, h2⟩ := List.getElem?_eq_some_iff.1 hbi
      rw [List.drop_eq_getElem_cons h1, h2]
    have hix : indexStr (.str s) (.int .i64 i) = some (.int .u8 b.toNat) := by simp [indexStr, hb]
    by_cases h2 : a + i < bs.length
    · have h2' : ¬ ((a : Int) + i = bs.length) := by omega
      obtain ⟨p, p1, p2⟩ := hR.idx (i := a + i) (e := bs[a + i]) (by simp [h2])
      have hdb : bs.drop (a + i) = bs[a + i] :: bs.drop (a + i + 1) := List.drop_eq_getElem_cons h2
      rw [Int.natCast_add] at p1
      by_cases hc : bs[a + i] = (b.toNat : Int)
      · simp (implicitDefEqProofs := false) [t0, t1, t4, RH, rb, hget_self, hR.lt, hR.bs.lenV, h', h2', p1, p2, hix, hc, storeA, cellsOf, setL]
        rw [hQ1]
        simp (implicitDefEqProofs := false)
        have w1 : IntKind.i64.wrap ((a : Int) + i + 1) = ((a + (i + 1) : Nat) : Int) := by rw [IntWalk.i64_in _ (by omega)]; omega
        refine ⟨s.size - (i + 1), by omega, i + 1, by simp [t0], by simp [t1], by simp [wrap_nat (n := i) (by omega)], by omega, by omega, by rw [w1]; rfl, ?_, rfl⟩
        rw [hw1, hd, hdb]
        simp only [wantL, hc, if_true]
        rw [show a + i + 1 = a + (i + 1) by omega]
        exact Prod.ext (by simp; omega) rfl
      · simp (implicitDefEqProofs := false) [t0, t1, t4, RH, rb, hget_self, hR.lt, hR.bs.lenV, h', h2', p1, p2, hix, hc, storeA, cellsOf, setL]
        refine FWops_callR rfl (by simp) (fail_calls C hP hR ((a : Int) + i) ((a : Int) + i) 6) ?_
        rintro v H' rfl
        simp (implicitDefEqProofs := false) [hQ1, hQ]
        refine retQ_ret (by first | exact Nat.le_refl _ | simp [RH]) ?_
        rw [hw1, hd, hdb]
        simp [wantL, hc, e17]
    · have h2' : (a : Int) + i = bs.length := by omega
      have hdb : bs.drop (a + i) = [] := List.drop_eq_nil_of_le (by omega)
      simp (implicitDefEqProofs := false) [t0, t1, t4, RH, rb, hget_self, hR.lt, hR.bs.lenV, h', h2', storeA, cellsOf, setL]
      refine FWops_callR rfl (by simp) (fail_calls C hP hR (bs.length : Int) (bs.length : Int) 6) ?_
      rintro v H' rfl
      simp (implicitDefEqProofs := false) [hQ1, hQ]
      refine retQ_ret (by first | exact Nat.le_refl _ | simp [RH]) ?_
      rw [hw1, hd, hdb]
      simp [wantL, e17, h2']
  · have h' : ¬ (i : Int) < s.size := by omega
    have e : i = s.size := by omega
    simp (implicitDefEqProofs := false) [t0, t1, t4, RH, rb, hget_self, hR.lt, hR.bs.lenV, h', hQ1, hQ]
    refine retQ_end (by first | exact Nat.le_refl _ | simp [RH]) ?_
    rw [hw1]
    have : (bytesI s).drop i = [] := List.drop_eq_nil_of_le (by rw [bytesI_length]; omega)
    rw [this]
    simp [wantL, e17, RH, rb]


theorem bytesI_sp : bytesI ⟨#[32]⟩ = [32] := rfl

/-- a blank; the entries are not too many -/
theorem more_calls (C : Ctx) (hP : C.P = Try.prog) {H : AHeap} {r : Nat} {xb : AVal} {bs : List Int} (hR : Rdr C H r xb bs) (a : Nat) (e n f : Int) (ha : a ≤ bs.length) (hl : bs.length ≤ 1000000) (hn : n ≠ 65536) :
    FCalls C 18 [.ptr (.loc r 0), .int .i64 n, .int .i64 f] (RH H r xb a e) (fun v H' => H' = if e = 0 then RH H r xb ((a + (wantL [32] (bs.drop a)).1 : Nat) : Int) (wantL [32] (bs.drop a)).2 else RH H r xb a e) := by
  refine FCalls.entry (hP ▸ v18) (by simp [e18]) fun hw _ => FWx_sound (FWx.hide fun Q hQ => ?_)
  simp (implicitDefEqProofs := false) [e18, c18]
  refine FWops_callR rfl (by simp) (want_calls C hP hR a e ⟨#[32]⟩ ha hl (by decide)) ?_
  rintro v H' rfl
  rw [bytesI_sp]
  by_cases he : e = 0
  · subst he
    generalize hww : wantL [32] (bs.drop a) = w at hQ ⊢
    obtain ⟨k, e'⟩ := w
    by_cases h1 : e' = 0
    · simp (implicitDefEqProofs := false) [RH, rb, hget_self, hR.lt, h1, hn, hQ]
      refine retQ_end (by first | exact Nat.le_refl _ | simp [RH]) ?_
      simp [RH, rb, e18]
    · simp (implicitDefEqProofs := false) [RH, rb, hget_self, hR.lt, h1, hn, hQ]
      refine retQ_end (by first | exact Nat.le_refl _ | simp [RH]) ?_
      simp [RH, rb, e18]
  · simp (implicitDefEqProofs := false) [RH, rb, hget_self, hR.lt, he, hn, hQ]
    refine retQ_end (by first | exact Nat.le_refl _ | simp [RH]) ?_
    simp [RH, rb, e18]

/-! a number -/
def dstep (n c : Int) : Int := if n ≤ 288230376151711743 then 10 * n + (c - 48) else 2305843009213693953

def digL : Int → List Int → Nat × Int
  | n, [] => (0, n)
  | n, c :: r => if isDig c then ((digL (dstep n c) r).1 + 1, (digL (dstep n c) r).2) else (0, n)

def finL (lo hi sg : Int) (k : Nat) (n : Int) : Nat × Int × Int := if 2305843009213693952 < n ∨ ¬ (lo ≤ sg * n ∧ sg * n ≤ hi) then (0, 9, 0) else (k, 0, sg * n)

def numT (lo hi sg : Int) (k0 : Nat) : List Int → Nat × Int × Int
  | [] => (k0, 6, 0)
  | c :: r => if isDig c = false ∨ (sg < 0 ∧ c = 48) then (k0, 6, 0) else
    if c = 48 then (if digAt r 0 then (k0 + 1, 6, 0) else finL lo hi sg (k0 + 1) 0)
    else finL lo hi sg (k0 + (digL 0 (c :: r)).1) (digL 0 (c :: r)).2

def numL (lo hi : Int) (rest : List Int) : Nat × Int × Int := if lo < 0 ∧ rest.head? = some 45 then numT lo hi (-1) 1 rest.tail else numT lo hi 1 0 rest


theorem digAt_drop (bs : List Int) (a : Nat) : digAt (bs.drop a) 0 = digAt bs a := by simp [digAt, List.getElem?_drop]

/-- what follows a bad number -/
def badRest : FC := .seq .skip (.seq (.ops [⟨(some 6), none, .mov (.val (.int .i64 0))⟩]) (.ret))

def numI (lo hi sg : Int) (H : AHeap) (r : Nat) (xb : AVal) (bs : List Int) (a0 a : Nat) (k0 : Int) (t : Fr) (H' : AHeap) (m : Nat) : Prop :=
  ∃ (i : Nat) (n : Int), t 0 = .ptr (.loc r 0) ∧ t 1 = .int .i64 lo ∧ t 2 = .int .i64 hi ∧ t 7 = .int .i64 n ∧ t 8 = .int .i64 k0 ∧ t 9 = .int .i64 sg ∧ 0 ≤ n ∧ n ≤ 2882303761517117439 ∧ a + i ≤ bs.length ∧ H' = RH H r xb ((a + i : Nat) : Int) 0 ∧
    digL 0 (bs.drop a) = (i + (digL n (bs.drop (a + i))).1, (digL n (bs.drop (a + i))).2) ∧ m = bs.length - (a + i)

def numMidA (lo hi : Int) (H : AHeap) (r : Nat) (xb : AVal) (bs : List Int) (a : Nat) (t : Fr) (H' : AHeap) : Prop :=
  ∃ (sg : Int) (k0 : Nat) (c : Int), (sg = 1 ∨ sg = -1) ∧ t 0 = .ptr (.loc r 0) ∧ t 1 = .int .i64 lo ∧ t 2 = .int .i64 hi ∧ t 7 = .int .i64 0 ∧ t 8 = .int .i64 a ∧ t 9 = .int .i64 sg ∧ a + k0 < bs.length ∧ H' = RH H r xb ((a + k0 : Nat) : Int) 0 ∧
    bs[a + k0]? = some c ∧ numL lo hi (bs.drop a) = (if c = 48 then (if digAt (bs.drop (a + k0 + 1)) 0 then (k0 + 1, 6, 0) else finL lo hi sg (k0 + 1) 0)
    else finL lo hi sg (k0 + (digL 0 (bs.drop (a + k0))).1) (digL 0 (bs.drop (a + k0))).2)

def numMid2 (lo hi : Int) (H : AHeap) (r : Nat) (xb : AVal) (bs : List Int) (a : Nat) (t : Fr) (H' : AHeap) : Prop :=
  ∃ (sg : Int) (k : Nat), (sg = 1 ∨ sg = -1) ∧ t 0 = .ptr (.loc r 0) ∧ t 1 = .int .i64 lo ∧ t 2 = .int .i64 hi ∧ t 7 = .int .i64 0 ∧ t 8 = .int .i64 a ∧ t 9 = .int .i64 sg ∧ a + k ≤ bs.length ∧ H' = RH H r xb ((a + k : Nat) : Int) 0 ∧
    numL lo hi (bs.drop a) = finL lo hi sg (k + (digL 0 (bs.drop (a + k))).1) (digL 0 (bs.drop (a + k))).2

def numMid3 (lo hi : Int) (H : AHeap) (r : Nat) (xb : AVal) (bs : List Int) (a : Nat) (t : Fr) (H' : AHeap) : Prop :=
  ∃ (sg : Int) (k : Nat) (n : Int), (sg = 1 ∨ sg = -1) ∧ t 0 = .ptr (.loc r 0) ∧ t 1 = .int .i64 lo ∧ t 2 = .int .i64 hi ∧ t 7 = .int .i64 n ∧ t 8 = .int .i64 a ∧ t 9 = .int .i64 sg ∧ 0 ≤ n ∧ n ≤ 2882303761517117439 ∧ a + k ≤ bs.length ∧ H' = RH H r xb ((a + k : Nat) : Int) 0 ∧
    numL lo hi (bs.drop a) = finL lo hi sg k n

def numI' (lo hi : Int) (H : AHeap) (r : Nat) (xb : AVal) (bs : List Int) (a : Nat) (t : Fr) (H' : AHeap) (m : Nat) : Prop :=
  ∃ (sg : Int) (k : Nat) (n : Int), (sg = 1 ∨ sg = -1) ∧ t 0 = .ptr (.loc r 0) ∧ t 1 = .int .i64 lo ∧ t 2 = .int .i64 hi ∧ t 7 = .int .i64 n ∧ t 8 = .int .i64 a ∧ t 9 = .int .i64 sg ∧ 0 ≤ n ∧ n ≤ 2882303761517117439 ∧ a + k ≤ bs.length ∧ H' = RH H r xb ((a + k : Nat) : Int) 0 ∧
    numL lo hi (bs.drop a) = finL lo hi sg (k + (digL n (bs.drop (a + k))).1) (digL n (bs.drop (a + k))).2 ∧ m = bs.length - (a + k)

def numMid (lo hi : Int) (H : AHeap) (r : Nat) (xb : AVal) (bs : List Int) (a : Nat) (t : Fr) (H' : AHeap) : Prop :=
  ∃ (sg : Int) (k0 : Nat), (sg = 1 ∨ sg = -1) ∧ t 0 = .ptr (.loc r 0) ∧ t 1 = .int .i64 lo ∧ t 2 = .int .i64 hi ∧ t 7 = .int .i64 0 ∧ t 8 = .int .i64 a ∧ t 9 = .int .i64 sg ∧ a + k0 ≤ bs.length ∧ H' = RH H r xb ((a + k0 : Nat) : Int) 0 ∧ numL lo hi (bs.drop a) = numT lo hi sg k0 (bs.drop (a + k0))

theorem number_calls (C : Ctx) (hP : C.P = Try.prog) {H : AHeap} {r : Nat} {xb : AVal} {bs : List Int} (hR : Rdr C H r xb bs) (a : Nat) (e lo hi : Int) (ha : a ≤ bs.length) (hl : bs.length ≤ 1000000) :
    FCalls C 19 [.ptr (.loc r 0), .int .i64 lo, .int .i64 hi] (RH H r xb a e) (fun v H' => if e = 0 then v = .int .i64 (numL lo hi (bs.drop a)).2.2 ∧ H' = RH H r xb ((a + (numL lo hi (bs.drop a)).1 : Nat) : Int) (numL lo hi (bs.drop a)).2.1 else v = .int .i64 0 ∧ H' = RH H r xb a e) := by
  refine FCalls.entry (hP ▸ v19) (by simp [e19]) fun hw _ => ?_
  generalize hQ : retQ _ _ _ = Q
  show FW _ c19 _ _ _
  unfold c19
  refine FW.seq' ?_
  simp (implicitDefEqProofs := false) [e19]
  refine FW.scopeJ' 0 (rest := badRest) rfl ?_
  by_cases he : e = 0
  rotate_left
  · refine FWx_sound ?_
    simp (implicitDefEqProofs := false) [RH, rb, hget_self, hR.lt, he]
    refine FWx_sound ?_
    simp (implicitDefEqProofs := false) [badRest]
    rw [← hQ]
    refine retQ_ret (by first | exact Nat.le_refl _ | simp [RH]) ?_
    simp [RH, rb, e19, he]
  subst he
  -- a number that is bad
  have bad : ∀ (n0 : Nat) (t : Fr) (k : Nat) (e' : Int), numL lo hi (bs.drop a) = (k, e', 0) → FW ⟨C, 148, n0⟩ badRest t (RH H r xb ((a + k : Nat) : Int) e') (noGotoQ Q) := by
    intro n0 t k e' hk
    refine FWx_sound ?_
    simp (implicitDefEqProofs := false) [badRest]
    rw [← hQ]
    refine retQ_ret (by first | exact Nat.le_refl _ | simp [RH]) ?_
    simp [RH, rb, e19, hk]
  refine FW.seq' ?_
  simp (implicitDefEqProofs := false)
  refine FW.seq' ?_
  simp (implicitDefEqProofs := false) [RH, rb, hget_self, hR.lt]
  refine FW.seq' ?_
  simp (implicitDefEqProofs := false) [hget_self, hR.lt]
  refine FW.cut' (numMid lo hi H r xb bs a) ?_ ?_
  · by_cases h1 : lo < 0
    · by_cases h2 : a < bs.length
      · have h2' : (a : Int) < bs.length := by omega
        obtain ⟨p, p1, p2⟩ := hR.idx (i := a) (e := bs[a]) (by simp [h2])
        have hh : (bs.drop a).head? = some bs[a] := by rw [List.head?_drop]; simp [h2]
        by_cases h3 : bs[a] = 45
        · simp (implicitDefEqProofs := false) [hget_self, hR.lt, hR.bs.lenV, h1, h2', p1, p2, h3, storeA, cellsOf, setL]
          refine ⟨-1, 1, .inr rfl, rfl, rfl, rfl, rfl, rfl, rfl, by omega, ?_, ?_⟩
          · have : IntKind.i64.wrap ((a : Int) + 1) = ((a + 1 : Nat) : Int) := wrap_nat (by omega)
            rw [this]; rfl
          · simp [numL, h1, hh, h3, List.tail_drop]
        · simp (implicitDefEqProofs := false) [hget_self, hR.lt, hR.bs.lenV, h1, h2', p1, p2, h3, storeA, cellsOf, setL]
          exact ⟨1, 0, .inl rfl, rfl, rfl, rfl, rfl, rfl, rfl, by omega, rfl, by simp [numL, h1, hh, h3]⟩
      · have h2' : ¬ (a : Int) < bs.length := by omega
        have hh : (bs.drop a).head? = none := by rw [List.head?_drop]; simp; omega
        simp (implicitDefEqProofs := false) [hget_self, hR.lt, hR.bs.lenV, h1, h2', storeA, cellsOf, setL]
        exact ⟨1, 0, .inl rfl, rfl, rfl, rfl, rfl, rfl, rfl, by omega, rfl, by simp [numL, h1, hh]⟩
    · simp (implicitDefEqProofs := false) [hget_self, hR.lt, hR.bs.lenV, h1, storeA, cellsOf, setL]
      exact ⟨1, 0, .inl rfl, rfl, rfl, rfl, rfl, rfl, rfl, by omega, rfl, by simp [numL, h1]⟩
  rintro t H' ⟨sg, k0, hsg, t0, t1, t2, t7, t8, t9, hk0, rfl, hn⟩
  -- the first digit
  have hdig := digit_calls C hP hR (a + k0) 0
  have fl : ∀ k : Nat, FCalls C 22 [.ptr (.loc r 0), .int .i64 6, .int .i64 ((a + k : Nat) : Int)] (RH H r xb ((a + k : Nat) : Int) 0) (fun v H' => H' = RH H r xb ((a + k : Nat) : Int) 6) := fun k => fail_calls C hP hR _ _ _
  refine FW.cut' (numMidA lo hi H r xb bs a) ?_ ?_
  · simp (implicitDefEqProofs := false) [t0]
    refine FWops_callR rfl (by simp) hdig ?_
    rintro v H' ⟨rfl, rfl⟩
    by_cases hd : digAt bs (a + k0) = true
    · have hlt : a + k0 < bs.length := by
        refine Classical.byContradiction fun hc => ?_
        have : bs[a + k0]? = none := by simp; omega
        simp [digAt, this] at hd
      obtain ⟨p, p1, p2⟩ := hR.idx (i := a + k0) (e := bs[a + k0]) (by simp [hlt])
      rw [Int.natCast_add] at p1
      have hc : isDig bs[a + k0] = true := by simpa [digAt, hlt] using hd
      have hdb : bs.drop (a + k0) = bs[a + k0] :: bs.drop (a + k0 + 1) := List.drop_eq_getElem_cons hlt
      rcases hsg with rfl | rfl
      · simp (implicitDefEqProofs := false) [hd, t0, t9]
        refine ⟨1, k0, bs[a + k0], .inl rfl, by simp [t0], by simp [t1], by simp [t2], by simp [t7], by simp [t8], by simp [t9], hlt, rfl, by simp [hlt], ?_⟩
        rw [hn, hdb]
        simp [numT, hc]
      · by_cases h48 : bs[a + k0] = 48
        · simp (implicitDefEqProofs := false) [hd, t0, t9, RH, rb, hget_self, hR.lt, p1, p2, h48]
          refine FWops_callR rfl (by simp) (fl k0) ?_
          rintro v H' rfl
          simp (implicitDefEqProofs := false)
          exact bad _ _ k0 6 (by rw [hn, hdb]; simp [numT, hc, h48])
        · simp (implicitDefEqProofs := false) [hd, t0, t9, RH, rb, hget_self, hR.lt, p1, p2, h48]
          refine ⟨-1, k0, bs[a + k0], .inr rfl, by simp [t0], by simp [t1], by simp [t2], by simp [t7], by simp [t8], by simp [t9], hlt, rfl, by simp [hlt], ?_⟩
          rw [hn, hdb]
          simp [numT, hc, h48]
    · have hd' : digAt bs (a + k0) = false := by simpa using hd
      simp (implicitDefEqProofs := false) [hd', t0, t9, RH, rb, hget_self, hR.lt]
      refine FWops_callR rfl (by simp) (fl k0) ?_
      rintro v H' rfl
      simp (implicitDefEqProofs := false)
      refine bad _ _ k0 6 ?_
      rw [hn]
      cases hx : bs.drop (a + k0) with
      | nil => rfl
      | cons c l =>
        have hc : bs[a + k0]? = some c := by
          have := congrArg List.head? hx
          rwa [List.head?_drop] at this
        simp only [digAt, hc] at hd'
        simp [numT, hd']
  clear hn t0 t1 t2 t7 t8 t9 hk0 hsg hdig t
  rintro t H' ⟨sg, k0, c, hsg, t0, t1, t2, t7, t8, t9, hlt, rfl, hc, hn⟩
  obtain ⟨p, p1, p2⟩ := hR.idx (i := a + k0) hc
  rw [Int.natCast_add] at p1
  refine FW.cut' (numMid2 lo hi H r xb bs a) ?_ ?_
  · have w1 : IntKind.i64.wrap ((a : Int) + k0 + 1) = ((a + (k0 + 1) : Nat) : Int) := by rw [IntWalk.i64_in _ (by omega)]; omega
    by_cases h48 : c = 48
    · subst h48
      simp only [if_true] at hn
      rw [digAt_drop] at hn
      simp (implicitDefEqProofs := false) [t0, RH, rb, hget_self, hR.lt, p1, p2, storeA, cellsOf, setL, w1]
      refine FWops_callR rfl (by simp) (digit_calls C hP hR (a + (k0 + 1)) 0) ?_
      rintro v H' ⟨rfl, rfl⟩
      by_cases hd : digAt bs (a + k0 + 1) = true
      · have hd2 : digAt bs (a + (k0 + 1)) = true := hd
        simp (implicitDefEqProofs := false) [hd2, t0, RH, rb, hget_self, hR.lt]
        refine FWops_callR rfl (by simp) (fl (k0 + 1)) ?_
        rintro v H' rfl
        simp (implicitDefEqProofs := false)
        exact bad _ _ (k0 + 1) 6 (by rw [hn]; simp [hd])
      · have hd' : digAt bs (a + k0 + 1) = false := by simpa using hd
        have hd2 : digAt bs (a + (k0 + 1)) = false := hd'
        simp (implicitDefEqProofs := false) [hd2]
        refine ⟨sg, k0 + 1, hsg, by simp [t0], by simp [t1], by simp [t2], by simp [t7], by simp [t8], by simp [t9], by omega, rfl, ?_⟩
        rw [hn]
        have : digL 0 (bs.drop (a + (k0 + 1))) = (0, 0) := by
          cases hx : bs.drop (a + (k0 + 1)) with
          | nil => rfl
          | cons c l =>
            have hc : bs[a + (k0 + 1)]? = some c := by
              have := congrArg List.head? hx
              rwa [List.head?_drop] at this
            simp only [digAt, hc] at hd2
            simp [digL, hd2]
        rw [this]
        simp [hd']
    · simp (implicitDefEqProofs := false) [t0, RH, rb, hget_self, hR.lt, p1, p2, h48]
      refine ⟨sg, k0, hsg, by simp [t0], by simp [t1], by simp [t2], by simp [t7], by simp [t8], by simp [t9], by omega, rfl, ?_⟩
      rw [hn]
      simp [h48]
  clear hn t0 t1 t2 t7 t8 t9 hlt hsg hc p1 p2 p t
  intro t H' hm
  refine FW.cut' (numMid3 lo hi H r xb bs a) ?_ ?_
  · simp (implicitDefEqProofs := false)
    obtain ⟨sg, k, hsg, t0, t1, t2, t7, t8, t9, hk, rfl, hn⟩ := hm
    refine FW.loop (numI' lo hi H r xb bs a) (bs.length - (a + k)) ⟨sg, k, 0, hsg, t0, t1, t2, t7, t8, t9, by omega, by omega, hk, rfl, hn, rfl⟩ ?_
    clear hn t0 t1 t2 t7 t8 t9 hk hsg t
    rintro t H' m ⟨sg, k, n, hsg, t0, t1, t2, t7, t8, t9, n0, n1, hk, rfl, hn, rfl⟩
    refine FWx_sound (FWx.hide fun Q1 hQ1 => ?_)
    simp (implicitDefEqProofs := false) [t0]
    refine FWops_callR rfl (by simp) (digit_calls C hP hR (a + k) 0) ?_
    rintro v H' ⟨rfl, rfl⟩
    by_cases hd : digAt bs (a + k) = true
    · have hlt : a + k < bs.length := by
        refine Classical.byContradiction fun hc => ?_
        have : bs[a + k]? = none := by simp; omega
        simp [digAt, this] at hd
      obtain ⟨p, p1, p2⟩ := hR.idx (i := a + k) (e := bs[a + k]) (by simp [hlt])
      rw [Int.natCast_add] at p1
      have hc : isDig bs[a + k] = true := by simpa [digAt, hlt] using hd
      have hcc : 48 ≤ bs[a + k] ∧ bs[a + k] ≤ 57 := by simpa [isDig] using hc
      have hdb : bs.drop (a + k) = bs[a + k] :: bs.drop (a + k + 1) := List.drop_eq_getElem_cons hlt
      have w1 : IntKind.i64.wrap ((a : Int) + k + 1) = ((a + (k + 1) : Nat) : Int) := by rw [IntWalk.i64_in _ (by omega)]; omega
      rw [hdb] at hn
      simp only [digL, hc, if_true] at hn
      by_cases hnn : n ≤ 288230376151711743
      · have w2 : IntKind.i64.wrap (10 * n) = 10 * n := IntWalk.i64_in _ (by omega)
        have w3 : IntKind.u8.wrap (bs[a + k] - 48) = bs[a + k] - 48 := IntWalk.u8_in _ (by omega)
        have w4 : IntKind.i64.wrap (bs[a + k] - 48) = bs[a + k] - 48 := IntWalk.i64_in _ (by omega)
        have w5 : IntKind.i64.wrap (10 * n + (bs[a + k] - 48)) = 10 * n + (bs[a + k] - 48) := IntWalk.i64_in _ (by omega)
        simp (implicitDefEqProofs := false) [t0, t7, RH, rb, hget_self, hR.lt, hd, hnn, p1, p2, w2, w3, w4, w5, storeA, cellsOf, setL]
        rw [hQ1]
        simp (implicitDefEqProofs := false)
        refine ⟨bs.length - (a + (k + 1)), by omega, sg, k + 1, 10 * n + (bs[a + k] - 48), hsg, by simp [t0], by simp [t1], by simp [t2], by simp, by simp [t8], by simp [t9], by omega, by omega, by omega, by rw [w1]; rfl, ?_, rfl⟩
        rw [hn, show a + k + 1 = a + (k + 1) by omega]
        simp only [dstep, hnn, if_true]
        congr 1
        omega
      · simp (implicitDefEqProofs := false) [t0, t7, RH, rb, hget_self, hR.lt, hd, hnn, storeA, cellsOf, setL]
        rw [hQ1]
        simp (implicitDefEqProofs := false)
        refine ⟨bs.length - (a + (k + 1)), by omega, sg, k + 1, 2305843009213693953, hsg, by simp [t0], by simp [t1], by simp [t2], by simp, by simp [t8], by simp [t9], by omega, by omega, by omega, by rw [w1]; rfl, ?_, rfl⟩
        rw [hn, show a + k + 1 = a + (k + 1) by omega]
        simp only [dstep, hnn, if_false]
        congr 1
        omega
    · have hd' : digAt bs (a + k) = false := by simpa using hd
      simp (implicitDefEqProofs := false) [hd', hQ1]
      refine ⟨sg, k, n, hsg, by simp [t0], by simp [t1], by simp [t2], by simp [t7], by simp [t8], by simp [t9], n0, n1, hk, rfl, ?_⟩
      rw [hn]
      have : digL n (bs.drop (a + k)) = (0, n) := by
        cases hx : bs.drop (a + k) with
        | nil => rfl
        | cons c l =>
          have hc : bs[a + k]? = some c := by
            have := congrArg List.head? hx
            rwa [List.head?_drop] at this
          simp only [digAt, hc] at hd'
          simp [digL, hd']
      rw [this]
      rfl
  clear hm t H'
  rintro t H' ⟨sg, k, n, hsg, t0, t1, t2, t7, t8, t9, n0, n1, hk, rfl, hn⟩
  have hw9 : IntKind.i64.wrap (sg * n) = sg * n := by
    rcases hsg with rfl | rfl <;> exact IntWalk.i64_in _ (by omega)
  refine FW.seq' ?_
  by_cases c1 : 2305843009213693952 < n
  · simp (implicitDefEqProofs := false) [t0, t1, t2, t7, t8, t9, c1]
    refine FWops_callR rfl (by simp) (fail_calls C hP hR _ (a : Int) 9) ?_
    rintro v H' rfl
    simp (implicitDefEqProofs := false)
    exact bad _ _ 0 9 (by rw [hn]; simp [finL, c1])
  · simp (implicitDefEqProofs := false) [t0, t1, t2, t7, t8, t9, c1, hw9]
    refine FWops_callR rfl (by simp) (between_calls C hP (sg * n) lo hi _) ?_
    rintro v H' ⟨rfl, rfl⟩
    by_cases c2 : lo ≤ sg * n ∧ sg * n ≤ hi
    · simp (implicitDefEqProofs := false) [c2.1, c2.2]
      refine FWx_sound ?_
      simp (implicitDefEqProofs := false) [t7, t9, hw9]
      rw [← hQ]
      refine retQ_ret (by first | exact Nat.le_refl _ | simp [RH]) ?_
      have : finL lo hi sg k n = (k, 0, sg * n) := by simp [finL, c1, c2.1, c2.2]
      simp [RH, rb, e19, hn, this]
    · have : (decide (lo ≤ sg * n) && decide (sg * n ≤ hi)) = false := by simpa using c2
      simp (implicitDefEqProofs := false) [this, t0, t8]
      refine FWops_callR rfl (by simp) (fail_calls C hP hR _ (a : Int) 9) ?_
      rintro v H' rfl
      simp (implicitDefEqProofs := false)
      exact bad _ _ 0 9 (by rw [hn]; simp only [finL, c1, false_or]; rw [if_pos c2])

end Go.Proofs.Ytfbkogaijopcgaa
