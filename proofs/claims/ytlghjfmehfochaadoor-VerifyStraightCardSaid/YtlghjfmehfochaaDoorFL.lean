/- The walk by rewriting. -/
import Derived.Test.YtlghjfmehfochaaDoorFK
set_option linter.all false
namespace Go.F
open Go.RowKit

/-- what follows, if there is something -/
def thenK (o : Option (AVal × AHeap)) (k : AVal → AHeap → Prop) : Prop := match o with
  | some (v, H) => k v H
  | none => False

theorem thenK_congr {o o' : Option (AVal × AHeap)} (h : o = o') (k : AVal → AHeap → Prop) : thenK o k = thenK o' k := by rw [h]
attribute [congr] thenK_congr
theorem thenK_some (v : AVal) (H : AHeap) (k : AVal → AHeap → Prop) : thenK (some (v, H)) k = k v H := _root_.id rfl
theorem thenK_none (k : AVal → AHeap → Prop) : thenK none k = False := _root_.id rfl

theorem FCalls_congr {C : Ctx} {f : Nat} {args args' : List AVal} {H H' : AHeap} (ha : args = args') (hh : H = H') (Post : AVal → AHeap → Prop) : FCalls C f args H Post = FCalls C f args' H' Post := by rw [ha, hh]

theorem FWops_congr {C : Ctx} {l : List FOper} {t t' : Fr} {H H' : AHeap} (ht : t = t') (hh : H = H') (K : Fr → AHeap → Prop) : FWops C l t H K = FWops C l t' H' K := by rw [ht, hh]
attribute [congr] FWops_congr

def guardK (v : AVal) (b : Bool) (p q : Prop) : Prop := match v with
  | .bool bb => if bb = b then p else q
  | .tup _ => q
  | _ => False

theorem guardK_congr {v v' : AVal} (h : v = v') (b : Bool) (p q : Prop) : guardK v b p q = guardK v' b p q := by rw [h]
attribute [congr] guardK_congr

theorem guardK_true (b : Bool) (p q : Prop) (bb : Bool) (h : bb = b) : guardK (.bool bb) b p q = p := by simp [guardK, h]
theorem guardK_false (b : Bool) (p q : Prop) (bb : Bool) (h : ¬ bb = b) : guardK (.bool bb) b p q = q := by simp [guardK, h]

theorem guardK_tup (b : Bool) (p q : Prop) (l : List AVal) : guardK (.tup l) b p q = q := _root_.id rfl

theorem FWop_stepOp {C : Ctx} {o : FOp} {t : Fr} {H : AHeap} {k : AVal → AHeap → Prop} (h : o.kl ≠ .call) : FWop C o t H k = thenK (stepOp C t H o) k := by
  cases o <;> first | exact absurd rfl h | rfl

/-- what follows in the list -/
def stepK (C : Ctx) (r : List FOper) (d : Option Nat) (t : Fr) (K : Fr → AHeap → Prop) : AVal → AHeap → Prop := fun v H' => FWops C r (putO t d v) H' K
theorem stepK_eq (C : Ctx) (r : List FOper) (d : Option Nat) (t : Fr) (K : Fr → AHeap → Prop) (v : AVal) (H : AHeap) : stepK C r d t K v H = FWops C r (putO t d v) H K := _root_.id rfl

/-- the list, its first operation unguarded -/
theorem FWops_step {C : Ctx} {o : FOp} {d : Option Nat} {r : List FOper} {t : Fr} {H : AHeap} {K : Fr → AHeap → Prop} (h : o.kl ≠ .call) :
    FWops C (⟨d, none, o⟩ :: r) t H K = thenK (stepOp C t H o) fun v H' => FWops C r (putO t d v) H' K := by
  rw [← FWop_stepOp h]; rfl

theorem FWops_guard {C : Ctx} {o : FOp} {d : Option Nat} {g : Nat} {b : Bool} {r : List FOper} {t : Fr} {H : AHeap} {K : Fr → AHeap → Prop} :
    FWops C (⟨d, some (g, b), o⟩ :: r) t H K = guardK (t g) b (FWops C (⟨d, none, o⟩ :: r) t H K) (FWops C r (putO t d (.tup [])) H K) := by
  simp only [FWops, guardK]
  cases t g <;> rfl

def callK (C : Ctx) (f : AVal) (args : List AVal) (H : AHeap) (k : AVal → AHeap → Prop) : Prop := match f with
  | .fn fi caps => FCalls C fi (args ++ caps) H k
  | .mth fi first => FCalls C fi (first ++ args) H k
  | _ => False

theorem callK_congr {C : Ctx} {f f' : AVal} {args args' : List AVal} {H H' : AHeap} (hf : f = f') (ha : args = args') (hh : H = H') (k : AVal → AHeap → Prop) : callK C f args H k = callK C f' args' H' k := by rw [hf, ha, hh]
theorem callK_fn (C : Ctx) (fi : Nat) (caps args : List AVal) (H : AHeap) (k : AVal → AHeap → Prop) : callK C (.fn fi caps) args H k = FCalls C fi (args ++ caps) H k := _root_.id rfl

theorem FWops_call {C : Ctx} {f : FOpd} {args : List FOpd} {d : Option Nat} {r : List FOper} {t : Fr} {H : AHeap} {K : Fr → AHeap → Prop} :
    FWops C (⟨d, none, .call f args⟩ :: r) t H K = callK C (evalO t f) (args.map (evalO t)) H fun v H' => FWops C r (putO t d v) H' K := _root_.id rfl

/-- A CALL, by what is known of the function. -/
theorem FWops_callR {C : Ctx} {f : FOpd} {args : List FOpd} {d : Option Nat} {r : List FOper} {t : Fr} {H : AHeap} {K : Fr → AHeap → Prop} {fi : Nat} {caps args' : List AVal} {Post : AVal → AHeap → Prop}
    (hf : evalO t f = .fn fi caps) (ha : args.map (evalO t) ++ caps = args') (h : FCalls C fi args' H Post) (hk : ∀ v H', Post v H' → FWops C r (putO t d v) H' K) : FWops C (⟨d, none, .call f args⟩ :: r) t H K := by
  rw [FWops_call, hf, callK_fn, ha]
  exact h.mono hk

/-- A CALL of a bound method, by what is known of the function. -/
theorem FWops_callM {C : Ctx} {f : FOpd} {args : List FOpd} {d : Option Nat} {r : List FOper} {t : Fr} {H : AHeap} {K : Fr → AHeap → Prop} {fi : Nat} {first args' : List AVal} {Post : AVal → AHeap → Prop}
    (hf : evalO t f = .mth fi first) (ha : first ++ args.map (evalO t) = args') (h : FCalls C fi args' H Post) (hk : ∀ v H', Post v H' → FWops C r (putO t d v) H' K) : FWops C (⟨d, none, .call f args⟩ :: r) t H K := by
  rw [FWops_call, hf]
  show FCalls C fi (first ++ args.map (evalO t)) H _
  rw [ha]
  exact h.mono hk

theorem FWops_nil {C : Ctx} {t : Fr} {H : AHeap} {K : Fr → AHeap → Prop} : FWops C [] t H K = K t H := _root_.id rfl

/-! one equation for each kind -/
def movA (v : AVal) (H : AHeap) : Option (AVal × AHeap) := some (v, H)
theorem movA_eq (v : AVal) (H : AHeap) : movA v H = some (v, H) := _root_.id rfl
def pickA (c a b : AVal) : Option AVal := match c with
  | .bool bb => some (if bb then a else b)
  | _ => none
def withH (o : Option AVal) (H : AHeap) : Option (AVal × AHeap) := o.map fun v => (v, H)
theorem withH_some (v : AVal) (H : AHeap) : withH (some v) H = some (v, H) := _root_.id rfl
def boxA (H : AHeap) (ty : TypeId) (v : AVal) : Option (AVal × AHeap) := match cellsOf v with
  | some l => some (.ptr (.loc H.length 0), H ++ [some ⟨l, ty⟩])
  | none => none
def boxP (p : Nat) (H : AHeap) (ty : TypeId) (v : AVal) : Option (AVal × AHeap) := match cellsOf v with
  | some l => some (.ptr (.loc p 0), setAt H p ⟨l, ty⟩)
  | none => none
def convA (k : IntKind) (x : AVal) : Option AVal := (asI x).map fun n => .int k (k.wrap n)
def faddrA (off : Nat) : AVal → Option AVal
  | .ptr a => some (.ptr (addA a off))
  | _ => none
def extractA (i : Nat) : AVal → Option AVal
  | .tup l => l[i]?
  | _ => none
def lenV (st : Bool) (x : AVal) : Option AVal := (lenA st x).map fun (n : Nat) => .int .i64 n
def appendE (C : Ctx) (H : AHeap) (ty esz bytes : Nat) (s x : AVal) : Option (AVal × AHeap) :=
  match srcCells C H esz x with
  | none => none
  | some (m, news) =>
    if news.length = m * esz ∧ news.all scalar = true then
      match s with
      | .nils => if m = 0 then some (.nils, H) else if m * bytes ≤ 140737488355328 then some (.arr H.length m, H ++ [some ⟨news, ty⟩]) else none
      | .arr id n => match hget H id with
        | some b =>
          if b.ty = ty ∧ n * esz ≤ b.cells.length ∧ (n + m) * bytes ≤ 140737488355328 then
            if (n + m) * esz ≤ b.cells.length then some (.arr id (n + m), H.set id (some ⟨setL b.cells (n * esz) news, b.ty⟩))
            else some (.arr H.length (n + m), H.set id none ++ [some ⟨b.cells.take (n * esz) ++ news, ty⟩])
          else none
        | none => none
      | _ => none
    else none
theorem appendA_end (C : Ctx) (H : AHeap) (ty esz bytes : Nat) (s x : AVal) : appendA C H.length H ty esz bytes s x = appendE C H ty esz bytes s x := by
  have e : ∀ (id : Nat) (b : ABlk), setAt (H.set id none) H.length b = H.set id none ++ [some b] := fun id b => by
    have := setAt_len (H.set id none) b
    rwa [List.length_set] at this
  unfold appendA appendE
  simp only [setAt_len, e]
  rfl
def s2bE (H : AHeap) (ty : Nat) (same : Bool) : AVal → Option (AVal × AHeap)
  | .str s => some (.arr H.length s.size, H ++ [some ⟨bytesL s, ty⟩])
  | .arr id n => if same = true ∧ (hget H id).isSome = true then some (.arr id n, H) else none
  | _ => none
theorem s2bA_end (H : AHeap) (ty : Nat) (same : Bool) (x : AVal) : s2bA H.length H ty same x = s2bE H ty same x := by
  cases x <;> simp [s2bA, s2bE, setAt_len]
def mksliceE (H : AHeap) (ty bytes : Nat) (z : List AVal) (x y : AVal) : Option (AVal × AHeap) :=
  match x, y with
  | .int .i64 l, .int .i64 c => if 0 ≤ l ∧ l ≤ c ∧ c.toNat * bytes ≤ 140737488355328 ∧ c ≤ 140737488355328 then some (.arr H.length l.toNat, H ++ [some ⟨zerosA z c.toNat, ty⟩]) else none
  | _, _ => none
theorem mksliceA_end (H : AHeap) (ty bytes : Nat) (z : List AVal) (x y : AVal) : mksliceA H.length H ty bytes z x y = mksliceE H ty bytes z x y := by
  unfold mksliceA mksliceE
  simp only [setAt_len]
  rfl

section
variable {C : Ctx} {p : Nat} {t : Fr} {H : AHeap}
theorem s_mov (x : FOpd) : stepAt C p t H (.mov x) = movA (evalO t x) H := _root_.id rfl
theorem s_pick (c a b : FOpd) : stepAt C p t H (.pick c a b) = withH (pickA (evalO t c) (evalO t a) (evalO t b)) H := by
  simp only [stepAt, pickA]; cases evalO t c <;> rfl
theorem s_alloc (ty : TypeId) (cells : List AVal) : stepAt C p t H (.alloc ty cells) = some (.ptr (.loc p 0), setAt H p ⟨cells, ty⟩) := _root_.id rfl
theorem s_box (ty : TypeId) (x : FOpd) : stepAt C p t H (.box ty x) = boxP p H ty (evalO t x) := _root_.id rfl
theorem s_build (z : List AVal) (ps : List (Nat × Nat × FOpd)) : stepAt C p t H (.build z ps) = (fillA z (evalP t ps)).map fun l => (.agg l, H) := _root_.id rfl
theorem s_bslice (ty e : Nat) (z : List AVal) (n : Nat) (ps : List (Nat × Nat × FOpd)) : stepAt C p t H (.bslice ty e z n ps) = (fillA z (evalP t ps)).map fun l => (.arr p n, setAt H p ⟨l, ty⟩) := _root_.id rfl
theorem s_load (n : Option Nat) (x : FOpd) : stepAt C p t H (.load n x) = withH (loadA C H n (evalO t x)) H := _root_.id rfl
theorem s_store (n : Nat) (a x : FOpd) : stepAt C p t H (.store n a x) = (storeA H n (evalO t a) (evalO t x)).map fun H' => (.any, H') := _root_.id rfl
theorem s_nilchk (x : FOpd) : stepAt C p t H (.nilchk x) = withH (nilchkA (evalO t x)) H := _root_.id rfl
theorem s_bin (op : BinOp) (c : Cls) (x y : FOpd) : stepAt C p t H (.bin op c x y) = withH (binA op c (evalO t x) (evalO t y)) H := _root_.id rfl
theorem s_un (op : UnOp) (x : FOpd) : stepAt C p t H (.un op x) = withH (unA op (evalO t x)) H := _root_.id rfl
theorem s_conv (k : IntKind) (x : FOpd) : stepAt C p t H (.conv k x) = withH (convA k (evalO t x)) H := by
  simp only [stepAt, convA, withH, Option.map_map, Function.comp_def]
theorem s_mkfn (f : Nat) (caps : List FOpd) : stepAt C p t H (.mkfn f caps) = movA (.fn f (caps.map (evalO t))) H := _root_.id rfl
theorem s_mkmth (f : Nat) (caps : List FOpd) : stepAt C p t H (.mkmth f caps) = movA (.mth f (caps.map (evalO t))) H := _root_.id rfl
theorem s_s2b (ty : Nat) (sm : Bool) (x : FOpd) : stepAt C p t H (.s2b ty sm x) = s2bA p H ty sm (evalO t x) := _root_.id rfl
theorem s_b2s (x : FOpd) : stepAt C p t H (.b2s x) = withH (b2sA C H (evalO t x)) H := _root_.id rfl
theorem s_mkslice (ty b : Nat) (z : List AVal) (x y : FOpd) : stepAt C p t H (.mkslice ty b z x y) = mksliceA p H ty b z (evalO t x) (evalO t y) := _root_.id rfl
theorem s_sliceS (x : FOpd) (lo hi : Option FOpd) : stepAt C p t H (.sliceS x lo hi) = withH (sliceStr t (evalO t x) lo hi) H := _root_.id rfl
theorem s_slice (ty e : Nat) (x : FOpd) (lo hi mx : Option FOpd) : stepAt C p t H (.slice ty e x lo hi mx) = withH (sliceA H t ty e (evalO t x) lo hi mx) H := _root_.id rfl
theorem s_faddr (off : Nat) (x : FOpd) : stepAt C p t H (.faddr off x) = withH (faddrA off (evalO t x)) H := by
  simp only [stepAt, faddrA]; cases evalO t x <;> rfl
theorem s_field (off : Nat) (n : Option Nat) (x : FOpd) : stepAt C p t H (.field off n x) = withH (fieldA off n (evalO t x)) H := _root_.id rfl
theorem s_iaddr (e : Nat) (x i : FOpd) : stepAt C p t H (.iaddr e x i) = withH (iaddrO e (evalO t x) (evalO t i)) H := _root_.id rfl
theorem s_iaddrA (l e : Nat) (x i : FOpd) : stepAt C p t H (.iaddrA l e x i) = withH (iaddrArr l e (evalO t x) (evalO t i)) H := _root_.id rfl
theorem s_indexS (x i : FOpd) : stepAt C p t H (.indexS x i) = withH (indexStr (evalO t x) (evalO t i)) H := _root_.id rfl
theorem s_extract (x : FOpd) (i : Nat) : stepAt C p t H (.extract x i) = withH (extractA i (evalO t x)) H := by
  simp only [stepAt, extractA]; cases evalO t x <;> rfl
theorem s_len (st : Bool) (x : FOpd) : stepAt C p t H (.len st x) = withH (lenV st (evalO t x)) H := by
  simp only [stepAt, lenV, withH, Option.map_map, Function.comp_def]
theorem s_append (ty e b : Nat) (s x : FOpd) : stepAt C p t H (.append ty e b s x) = appendA C p H ty e b (evalO t s) (evalO t x) := _root_.id rfl
theorem s_clear (e : Nat) (z : Array Value) (x : FOpd) : stepAt C p t H (.clear e z x) = (clearA H z e (evalO t x)).map fun H' => (.tup [], H') := _root_.id rfl
end

section
variable {C : Ctx} {d : Option Nat} {r : List FOper} {t : Fr} {H : AHeap} {K : Fr → AHeap → Prop}
theorem o_alloc (ty : TypeId) (cells : List AVal) : FWops C (⟨d, none, .alloc ty cells⟩ :: r) t H K = FWops C r (putO t d (.ptr (.loc H.length 0))) (H ++ [some ⟨cells, ty⟩]) K := by
  rw [FWops_step (by simp [FOp.kl]), stepOp, s_alloc, setAt_len]; rfl
theorem o_mov (x : FOpd) : FWops C (⟨d, none, .mov x⟩ :: r) t H K = thenK (movA (evalO t x) H) (stepK C r d t K) := by
  rw [FWops_step (by simp [FOp.kl]), stepOp, s_mov]; rfl
theorem o_pick (c a b : FOpd) : FWops C (⟨d, none, .pick c a b⟩ :: r) t H K = thenK (withH (pickA (evalO t c) (evalO t a) (evalO t b)) H) (stepK C r d t K) := by
  rw [FWops_step (by simp [FOp.kl]), stepOp, s_pick]; rfl
theorem o_box (ty : TypeId) (x : FOpd) : FWops C (⟨d, none, .box ty x⟩ :: r) t H K = thenK (boxA H ty (evalO t x)) (stepK C r d t K) := by
  rw [FWops_step (by simp [FOp.kl]), stepOp, s_box]; simp only [boxP, boxA, setAt_len]; rfl
theorem o_build (z : List AVal) (ps : List (Nat × Nat × FOpd)) : FWops C (⟨d, none, .build z ps⟩ :: r) t H K = thenK (((fillA z (evalP t ps)).map fun l => (.agg l, H))) (stepK C r d t K) := by
  rw [FWops_step (by simp [FOp.kl]), stepOp, s_build]; rfl
theorem o_bslice (ty e : Nat) (z : List AVal) (n : Nat) (ps : List (Nat × Nat × FOpd)) : FWops C (⟨d, none, .bslice ty e z n ps⟩ :: r) t H K = thenK (((fillA z (evalP t ps)).map fun l => (.arr H.length n, H ++ [some ⟨l, ty⟩]))) (stepK C r d t K) := by
  rw [FWops_step (by simp [FOp.kl]), stepOp, s_bslice]; simp only [setAt_len]; rfl
theorem o_load (n : Option Nat) (x : FOpd) : FWops C (⟨d, none, .load n x⟩ :: r) t H K = thenK (withH (loadA C H n (evalO t x)) H) (stepK C r d t K) := by
  rw [FWops_step (by simp [FOp.kl]), stepOp, s_load]; rfl
theorem o_store (n : Nat) (a x : FOpd) : FWops C (⟨d, none, .store n a x⟩ :: r) t H K = thenK (((storeA H n (evalO t a) (evalO t x)).map fun H' => (.any, H'))) (stepK C r d t K) := by
  rw [FWops_step (by simp [FOp.kl]), stepOp, s_store]; rfl
theorem o_nilchk (x : FOpd) : FWops C (⟨d, none, .nilchk x⟩ :: r) t H K = thenK (withH (nilchkA (evalO t x)) H) (stepK C r d t K) := by
  rw [FWops_step (by simp [FOp.kl]), stepOp, s_nilchk]; rfl
theorem o_bin (op : BinOp) (c : Cls) (x y : FOpd) : FWops C (⟨d, none, .bin op c x y⟩ :: r) t H K = thenK (withH (binA op c (evalO t x) (evalO t y)) H) (stepK C r d t K) := by
  rw [FWops_step (by simp [FOp.kl]), stepOp, s_bin]; rfl
theorem o_un (op : UnOp) (x : FOpd) : FWops C (⟨d, none, .un op x⟩ :: r) t H K = thenK (withH (unA op (evalO t x)) H) (stepK C r d t K) := by
  rw [FWops_step (by simp [FOp.kl]), stepOp, s_un]; rfl
theorem o_conv (k : IntKind) (x : FOpd) : FWops C (⟨d, none, .conv k x⟩ :: r) t H K = thenK (withH (convA k (evalO t x)) H) (stepK C r d t K) := by
  rw [FWops_step (by simp [FOp.kl]), stepOp, s_conv]; rfl
theorem o_mkfn (f : Nat) (caps : List FOpd) : FWops C (⟨d, none, .mkfn f caps⟩ :: r) t H K = thenK (movA (.fn f (caps.map (evalO t))) H) (stepK C r d t K) := by
  rw [FWops_step (by simp [FOp.kl]), stepOp, s_mkfn]; rfl
theorem o_mkmth (f : Nat) (caps : List FOpd) : FWops C (⟨d, none, .mkmth f caps⟩ :: r) t H K = thenK (movA (.mth f (caps.map (evalO t))) H) (stepK C r d t K) := by
  rw [FWops_step (by simp [FOp.kl]), stepOp, s_mkmth]; rfl
theorem o_s2b (ty : Nat) (sm : Bool) (x : FOpd) : FWops C (⟨d, none, .s2b ty sm x⟩ :: r) t H K = thenK (s2bE H ty sm (evalO t x)) (stepK C r d t K) := by
  rw [FWops_step (by simp [FOp.kl]), stepOp, s_s2b, s2bA_end]; rfl
theorem o_b2s (x : FOpd) : FWops C (⟨d, none, .b2s x⟩ :: r) t H K = thenK (withH (b2sA C H (evalO t x)) H) (stepK C r d t K) := by
  rw [FWops_step (by simp [FOp.kl]), stepOp, s_b2s]; rfl
theorem o_mkslice (ty b : Nat) (z : List AVal) (x y : FOpd) : FWops C (⟨d, none, .mkslice ty b z x y⟩ :: r) t H K = thenK (mksliceE H ty b z (evalO t x) (evalO t y)) (stepK C r d t K) := by
  rw [FWops_step (by simp [FOp.kl]), stepOp, s_mkslice, mksliceA_end]; rfl
theorem o_sliceS (x : FOpd) (lo hi : Option FOpd) : FWops C (⟨d, none, .sliceS x lo hi⟩ :: r) t H K = thenK (withH (sliceStr t (evalO t x) lo hi) H) (stepK C r d t K) := by
  rw [FWops_step (by simp [FOp.kl]), stepOp, s_sliceS]; rfl
theorem o_slice (ty e : Nat) (x : FOpd) (lo hi mx : Option FOpd) : FWops C (⟨d, none, .slice ty e x lo hi mx⟩ :: r) t H K = thenK (withH (sliceA H t ty e (evalO t x) lo hi mx) H) (stepK C r d t K) := by
  rw [FWops_step (by simp [FOp.kl]), stepOp, s_slice]; rfl
theorem o_faddr (off : Nat) (x : FOpd) : FWops C (⟨d, none, .faddr off x⟩ :: r) t H K = thenK (withH (faddrA off (evalO t x)) H) (stepK C r d t K) := by
  rw [FWops_step (by simp [FOp.kl]), stepOp, s_faddr]; rfl
theorem o_field (off : Nat) (n : Option Nat) (x : FOpd) : FWops C (⟨d, none, .field off n x⟩ :: r) t H K = thenK (withH (fieldA off n (evalO t x)) H) (stepK C r d t K) := by
  rw [FWops_step (by simp [FOp.kl]), stepOp, s_field]; rfl
theorem o_iaddr (e : Nat) (x i : FOpd) : FWops C (⟨d, none, .iaddr e x i⟩ :: r) t H K = thenK (withH (iaddrO e (evalO t x) (evalO t i)) H) (stepK C r d t K) := by
  rw [FWops_step (by simp [FOp.kl]), stepOp, s_iaddr]; rfl
theorem o_iaddrA (l e : Nat) (x i : FOpd) : FWops C (⟨d, none, .iaddrA l e x i⟩ :: r) t H K = thenK (withH (iaddrArr l e (evalO t x) (evalO t i)) H) (stepK C r d t K) := by
  rw [FWops_step (by simp [FOp.kl]), stepOp, s_iaddrA]; rfl
theorem o_indexS (x i : FOpd) : FWops C (⟨d, none, .indexS x i⟩ :: r) t H K = thenK (withH (indexStr (evalO t x) (evalO t i)) H) (stepK C r d t K) := by
  rw [FWops_step (by simp [FOp.kl]), stepOp, s_indexS]; rfl
theorem o_extract (x : FOpd) (i : Nat) : FWops C (⟨d, none, .extract x i⟩ :: r) t H K = thenK (withH (extractA i (evalO t x)) H) (stepK C r d t K) := by
  rw [FWops_step (by simp [FOp.kl]), stepOp, s_extract]; rfl
theorem o_len (st : Bool) (x : FOpd) : FWops C (⟨d, none, .len st x⟩ :: r) t H K = thenK (withH (lenV st (evalO t x)) H) (stepK C r d t K) := by
  rw [FWops_step (by simp [FOp.kl]), stepOp, s_len]; rfl
theorem o_append (ty e b : Nat) (s x : FOpd) : FWops C (⟨d, none, .append ty e b s x⟩ :: r) t H K = thenK (appendE C H ty e b (evalO t s) (evalO t x)) (stepK C r d t K) := by
  rw [FWops_step (by simp [FOp.kl]), stepOp, s_append, appendA_end]; rfl
theorem o_clear (e : Nat) (z : Array Value) (x : FOpd) : FWops C (⟨d, none, .clear e z x⟩ :: r) t H K = thenK (((clearA H z e (evalO t x)).map fun H' => (.tup [], H'))) (stepK C r d t K) := by
  rw [FWops_step (by simp [FOp.kl]), stepOp, s_clear]; rfl
end

/-! the code -/
def FWx (X : Fx) : FC → Fr → AHeap → FQ → Prop
  | .skip, t, H, Q => Q .normal t H
  | .ops l, t, H, Q => FWops X.C l t H fun t H => Q .normal t H
  | .draw T, t, H, Q => FWtree X.C T t H fun t H => Q .normal t H
  | .drawR n T, t, H, Q => FWtreeR X.C H.length T [] t (H ++ List.replicate n none) fun t H => Q .normal t H
  | .seq a b, t, H, Q => FWx X a t H fun e t H => match e with | .normal => FWx X b t H Q | e => Q e t H
  | .cond c a b, t, H, Q => ∃ bb, evalO t c = .bool bb ∧ (bb = true → FWx X a t H Q) ∧ (bb = false → FWx X b t H Q)
  | .block id a, t, H, Q => FWx X a t H (blockQ id Q)
  | .loop a, t, H, Q => FW X (.loop a) t H Q
  | .exit id, t, H, Q => Q (.exit id) t H
  | .scope a, t, H, Q => FW X (.scope a) t H Q
  | .label _, t, H, Q => Q .normal t H
  | .goto l, t, H, Q => Q (.goto l) t H
  | .ret, t, H, Q => Q .ret t H

theorem FWx_sound {X : Fx} : ∀ {fc : FC} {t : Fr} {H : AHeap} {Q : FQ}, FWx X fc t H Q → FW X fc t H Q
  | .skip, _, _, _, h => FW.skip h
  | .ops _, _, _, _, h => FW.ops h
  | .draw _, _, _, _, h => FW.draw h
  | .drawR _ _, _, _, _, h => FW.drawR h
  | .seq a b, t, H, Q, h => by
    have h1 : FWx X a t H (fun e t H => match e with | .normal => FWx X b t H Q | e => Q e t H) := h
    refine FW.seq ((FWx_sound h1).mono fun e t H h => ?_)
    cases e with
    | normal => exact FWx_sound h
    | _ => exact h
  | .cond _ a b, _, _, _, ⟨_, h1, h2, h3⟩ => FW.cond h1 (fun e => FWx_sound (h2 e)) (fun e => FWx_sound (h3 e))
  | .block _ a, _, _, _, h => FW.block (FWx_sound h)
  | .loop _, _, _, _, h => h
  | .exit _, _, _, _, h => FW.exit h
  | .scope _, _, _, _, h => h
  | .label _, _, _, _, h => FW.label h
  | .goto _, _, _, _, h => FW.goto h
  | .ret, _, _, _, h => FW.ret h

/-- behind a: b -/
def seqX (X : Fx) (b : FC) (Q : FQ) : FQ := fun e t H => match e with
  | .normal => FWx X b t H Q
  | e => Q e t H

/-- what follows, under a name -/
theorem FWx.hide {X : Fx} {fc : FC} {t : Fr} {H : AHeap} {Q : FQ} (h : ∀ Q', Q' = Q → FWx X fc t H Q') : FWx X fc t H Q := h Q rfl

theorem FWx_congr {X : Fx} {fc : FC} {t t' : Fr} {H H' : AHeap} (ht : t = t') (hh : H = H') (Q : FQ) : FWx X fc t H Q = FWx X fc t' H' Q := by rw [ht, hh]
attribute [congr] FWx_congr
theorem FWtree_congr {C : Ctx} {T : OTree} {t t' : Fr} {H H' : AHeap} (ht : t = t') (hh : H = H') (K : Fr → AHeap → Prop) : FWtree C T t H K = FWtree C T t' H' K := by rw [ht, hh]
attribute [congr] FWtree_congr
theorem FWtreeR_congr {C : Ctx} {h : Nat} {T : RTree} {t t' : Fr} {H H' : AHeap} (ht : t = t') (hh : H = H') (seen : Seen) (K : Fr → AHeap → Prop) : FWtreeR C h T seen t H K = FWtreeR C h T seen t' H' K := by rw [ht, hh]
attribute [congr] FWtreeR_congr
theorem FW_congr {X : Fx} {fc : FC} {t t' : Fr} {H H' : AHeap} (ht : t = t') (hh : H = H') (Q : FQ) : FW X fc t H Q = FW X fc t' H' Q := by rw [ht, hh]
attribute [congr] FW_congr

/-- a test -/
def condK (v : AVal) (p q : Prop) : Prop := ∃ bb, v = .bool bb ∧ (bb = true → p) ∧ (bb = false → q)
theorem condK_congr {v v' : AVal} (h : v = v') (p q : Prop) : condK v p q = condK v' p q := by rw [h]
attribute [congr] condK_congr
theorem condK_true (b : Bool) (p q : Prop) (h : b = true) : condK (.bool b) p q = p := by subst h; simp [condK]
theorem condK_false (b : Bool) (p q : Prop) (h : b = false) : condK (.bool b) p q = q := by subst h; simp [condK]

section
variable {X : Fx} {t : Fr} {H : AHeap} {Q : FQ}
theorem x_skip : FWx X .skip t H Q = Q .normal t H := _root_.id rfl
def nextK (Q : FQ) : Fr → AHeap → Prop := fun t H => Q .normal t H
theorem nextK_eq : nextK Q t H = Q .normal t H := _root_.id rfl
def treeK (C : Ctx) (r : OTree) (K : Fr → AHeap → Prop) : Fr → AHeap → Prop := fun t H => FWtree C r t H K
theorem treeK_eq (C : Ctx) (r : OTree) (K : Fr → AHeap → Prop) : treeK C r K t H = FWtree C r t H K := _root_.id rfl
theorem x_ops (l : List FOper) : FWx X (.ops l) t H Q = FWops X.C l t H (nextK Q) := _root_.id rfl
theorem x_draw (T : OTree) : FWx X (.draw T) t H Q = FWtree X.C T t H (nextK Q) := _root_.id rfl
theorem t_done {C : Ctx} {K : Fr → AHeap → Prop} : FWtree C .done t H K = K t H := _root_.id rfl
theorem t_ops {C : Ctx} {K : Fr → AHeap → Prop} (l : List FOper) (r : OTree) : FWtree C (.ops l r) t H K = FWops C l t H (treeK C r K) := _root_.id rfl
theorem t_both {C : Ctx} {K : Fr → AHeap → Prop} (a b : OTree) : FWtree C (.both a b) t H K = (FWtree C a t H K ∧ FWtree C b t H K) := _root_.id rfl
theorem t_top {C : Ctx} {K : Fr → AHeap → Prop} : FWtree C .top t H K = True := _root_.id rfl
theorem x_seq (a b : FC) : FWx X (.seq a b) t H Q = FWx X a t H (seqX X b Q) := _root_.id rfl
theorem s_normal (b : FC) : seqX X b Q .normal t H = FWx X b t H Q := _root_.id rfl
theorem s_exit (b : FC) (j : Nat) : seqX X b Q (.exit j) t H = Q (.exit j) t H := _root_.id rfl
theorem s_ret (b : FC) : seqX X b Q .ret t H = Q .ret t H := _root_.id rfl
theorem s_goto (b : FC) (j : Nat) : seqX X b Q (.goto j) t H = Q (.goto j) t H := _root_.id rfl
theorem b_normal (j : Nat) : blockQ j Q .normal t H = Q .normal t H := _root_.id rfl
theorem b_same (j : Nat) : blockQ j Q (.exit j) t H = Q .normal t H := by simp [blockQ]
theorem b_other (j k : Nat) (h : k ≠ j) : blockQ j Q (.exit k) t H = Q (.exit k) t H := by simp [blockQ, h]
theorem b_ret (j : Nat) : blockQ j Q .ret t H = Q .ret t H := _root_.id rfl
theorem b_goto (j k : Nat) : blockQ j Q (.goto k) t H = Q (.goto k) t H := _root_.id rfl
theorem l_normal (I : Fr → AHeap → Nat → Prop) (m : Nat) : loopQ I m Q .normal t H = ∃ m', m' < m ∧ I t H m' := _root_.id rfl
theorem l_exit (I : Fr → AHeap → Nat → Prop) (m j : Nat) : loopQ I m Q (.exit j) t H = Q (.exit j) t H := _root_.id rfl
theorem l_ret (I : Fr → AHeap → Nat → Prop) (m : Nat) : loopQ I m Q .ret t H = Q .ret t H := _root_.id rfl
theorem l_goto (I : Fr → AHeap → Nat → Prop) (m j : Nat) : loopQ I m Q (.goto j) t H = Q (.goto j) t H := _root_.id rfl
theorem x_cond (c : FOpd) (a b : FC) : FWx X (.cond c a b) t H Q = condK (evalO t c) (FWx X a t H Q) (FWx X b t H Q) := _root_.id rfl
theorem x_block (id : Nat) (a : FC) : FWx X (.block id a) t H Q = FWx X a t H (blockQ id Q) := _root_.id rfl
theorem x_loop (a : FC) : FWx X (.loop a) t H Q = FW X (.loop a) t H Q := _root_.id rfl
theorem x_exit (id : Nat) : FWx X (.exit id) t H Q = Q (.exit id) t H := _root_.id rfl
theorem x_scope (a : FC) : FWx X (.scope a) t H Q = FW X (.scope a) t H Q := _root_.id rfl
theorem x_label (l : Nat) : FWx X (.label l) t H Q = Q .normal t H := _root_.id rfl
theorem x_goto (l : Nat) : FWx X (.goto l) t H Q = Q (.goto l) t H := _root_.id rfl
theorem x_ret : FWx X .ret t H Q = Q .ret t H := _root_.id rfl
end

/-! regions with kept places -/
def treeRK (C : Ctx) (h : Nat) (r : RTree) (seen : Seen) (d : Option Nat) (t : Fr) (K : Fr → AHeap → Prop) : AVal → AHeap → Prop := fun v H' => FWtreeR C h r seen (putO t d v) H' K
theorem treeRK_eq (C : Ctx) (h : Nat) (r : RTree) (seen : Seen) (d : Option Nat) (t : Fr) (K : Fr → AHeap → Prop) (v : AVal) (H : AHeap) : treeRK C h r seen d t K v H = FWtreeR C h r seen (putO t d v) H K := _root_.id rfl

def entK (C : Ctx) (h j : Nat) (anc : List Nat) (d : Option Nat) (r : RTree) (seen : Seen) (t : Fr) (n : Nat) (K : Fr → AHeap → Prop) (v : AVal) (H' : AHeap) : List Nat → List Nat → Prop := fun all mods =>
  ((mods = [] ∨ h + j < n) ∧ SeenOK anc seen all mods) ∧ FWtreeR C h r ((j, all, mods) :: seen) (putO t d v) H' K
theorem entK_eq (C : Ctx) (h j : Nat) (anc : List Nat) (d : Option Nat) (r : RTree) (seen : Seen) (t : Fr) (n : Nat) (K : Fr → AHeap → Prop) (v : AVal) (H' : AHeap) (all mods : List Nat) : entK C h j anc d r seen t n K v H' all mods =
  (((mods = [] ∨ h + j < n) ∧ SeenOK anc seen all mods) ∧ FWtreeR C h r ((j, all, mods) :: seen) (putO t d v) H' K) := _root_.id rfl

def twoK (a b : List Nat) (n : Nat) (f : Nat → List Nat → List Nat → Prop) : Prop := f n a b
theorem twoK_congr {a a' b b' : List Nat} {n n' : Nat} (ha : a = a') (hb : b = b') (hn : n = n') (f : Nat → List Nat → List Nat → Prop) : twoK a b n f = twoK a' b' n' f := by rw [ha, hb, hn]
attribute [congr] twoK_congr
theorem twoK_eq (a b : List Nat) (n : Nat) (f : Nat → List Nat → List Nat → Prop) : twoK a b n f = f n a b := _root_.id rfl

def regK (C : Ctx) (h j : Nat) (anc : List Nat) (o : FOp) (d : Option Nat) (r : RTree) (seen : Seen) (t : Fr) (H : AHeap) (K : Fr → AHeap → Prop) : AVal → AHeap → Prop := fun v H' =>
  twoK (opAll (h + j) t o) (opMods (h + j) t o) H.length fun n => entK C h j anc d r seen t n K v H'
theorem regK_eq (C : Ctx) (h j : Nat) (anc : List Nat) (o : FOp) (d : Option Nat) (r : RTree) (seen : Seen) (t : Fr) (H : AHeap) (K : Fr → AHeap → Prop) (v : AVal) (H' : AHeap) : regK C h j anc o d r seen t H K v H' =
  twoK (opAll (h + j) t o) (opMods (h + j) t o) H.length fun n => entK C h j anc d r seen t n K v H' := _root_.id rfl

theorem FStepR_free {C : Ctx} {h j : Nat} {anc : List Nat} {d : Option Nat} {o : FOp} {seen : Seen} {t : Fr} {H : AHeap} {k : Seen → Fr → AHeap → Prop} (hr : regOp o = true) :
    FStepR C h j anc ⟨d, none, o⟩ seen t H k ↔ ∃ v H', stepAt C (h + j) t H o = some (v, H') ∧ (opMods (h + j) t o ≠ [] → h + j < H.length) ∧ SeenOK anc seen (opAll (h + j) t o) (opMods (h + j) t o) ∧ k ((j, opAll (h + j) t o, opMods (h + j) t o) :: seen) (putO t d v) H' := by
  unfold FStepR
  simp [runs, hr]

/-- an entry without blocks says nothing -/
theorem FWtreeR_drop {C : Ctx} {h : Nat} {K : Fr → AHeap → Prop} : ∀ {T : RTree} {s s' : Seen} {t : Fr} {H : AHeap}, (∀ e ∈ s', e ∈ s ∨ (e.2.1 = [] ∧ e.2.2 = [])) → FWtreeR C h T s t H K → FWtreeR C h T s' t H K
  | .done, _, _, _, _, _, hf => hf
  | .op j anc o r, s, s', t, H, hs, hf => by
    rcases hf with ⟨h1, h2⟩ | ⟨h1, ⟨h2, v, H', h3, h4, h5, h6⟩ | ⟨h2, h3⟩⟩
    · exact .inl ⟨h1, FWtreeR_drop hs h2⟩
    · refine .inr ⟨h1, .inl ⟨h2, v, H', h3, h4, fun e he => ?_, FWtreeR_drop ?_ h6⟩⟩
      · rcases hs e he with hin | ⟨e1, e2⟩
        · exact h5 e hin
        · exact .inr ⟨by rw [e2]; simp, by rw [e1]; simp⟩
      · intro e he
        rcases List.mem_cons.1 he with rfl | he
        · exact .inl (by simp)
        · rcases hs e he with hin | q
          · exact .inl (by simp [hin])
          · exact .inr q
    · refine .inr ⟨h1, .inr ⟨h2, h3.mono fun v H' hh => ⟨fun e he => ?_, FWtreeR_drop hs hh.2⟩⟩⟩
      rcases hs e he with hin | ⟨e1, _⟩
      · exact hh.1 e hin
      · exact .inr (by rw [e1]; simp)
  | .both _ _, _, _, _, _, hs, hf => ⟨FWtreeR_drop hs hf.1, FWtreeR_drop hs hf.2⟩
  | .top, _, _, _, _, _, _ => trivial
  | .stuck, _, _, _, _, _, hf => hf.elim

section
variable {C : Ctx} {h : Nat} {seen : Seen} {t : Fr} {H : AHeap} {K : Fr → AHeap → Prop}
theorem x_drawR {X : Fx} {Q : FQ} (n : Nat) (T : RTree) : FWx X (.drawR n T) t H Q = FWtreeR X.C H.length T [] t (H ++ List.replicate n none) (nextK Q) := _root_.id rfl
theorem r_done : FWtreeR C h .done seen t H K = K t H := _root_.id rfl
theorem r_both (a b : RTree) : FWtreeR C h (.both a b) seen t H K = (FWtreeR C h a seen t H K ∧ FWtreeR C h b seen t H K) := _root_.id rfl
theorem r_top : FWtreeR C h .top seen t H K = True := _root_.id rfl

theorem thenK_iff (o : Option (AVal × AHeap)) (k : AVal → AHeap → Prop) : thenK o k ↔ ∃ v H', o = some (v, H') ∧ k v H' := by
  unfold thenK
  split
  · rename_i v H
    constructor
    · intro hk; exact ⟨v, H, rfl, hk⟩
    · rintro ⟨v', H', e, hk⟩
      simp only [Option.some.injEq, Prod.mk.injEq] at e
      obtain ⟨rfl, rfl⟩ := e
      exact hk
  · simp

theorem r_pure (j : Nat) (anc : List Nat) (d : Option Nat) (o : FOp) (r : RTree) (hp : o.kl = .pure) : FWtreeR C h (.op j anc ⟨d, none, o⟩ r) seen t H K = thenK (stepAt C (h + j) t H o) (treeRK C h r seen d t K) := by
  obtain ⟨p1, p2, p3⟩ := pure_none (p := h + j) (t := t) hp
  apply propext
  rw [FWtreeR, FStepR_free p1, thenK_iff]
  constructor
  · rintro ⟨v, H', h1, _, _, h2⟩
    exact ⟨v, H', h1, FWtreeR_drop (fun e he => .inl (by simp [he])) h2⟩
  · rintro ⟨v, H', h1, h2⟩
    refine ⟨v, H', h1, fun hh => absurd p2 hh, fun e he => .inr ⟨?_, ?_⟩, FWtreeR_drop (fun e he => ?_) h2⟩
    · intro x _ hx; simp [opAll, p2, p3] at hx
    · rw [p2]; simp
    · rcases List.mem_cons.1 he with rfl | he
      · exact .inr ⟨by simp [opAll, p2, p3], p2⟩
      · exact .inl he

def impure (o : FOp) : Bool := regOp o && (match o.kl with | .pure => false | _ => true)

theorem r_reg (j : Nat) (anc : List Nat) (d : Option Nat) (o : FOp) (r : RTree) (hp : impure o = true) : FWtreeR C h (.op j anc ⟨d, none, o⟩ r) seen t H K = thenK (stepAt C (h + j) t H o) (regK C h j anc o d r seen t H K) := by
  unfold impure at hp
  simp only [Bool.and_eq_true] at hp
  apply propext
  rw [FWtreeR, FStepR_free hp.1, thenK_iff]
  constructor
  · rintro ⟨v, H', h1, h2, h3, h4⟩
    refine ⟨v, H', h1, ⟨?_, h3⟩, h4⟩
    by_cases e : opMods (h + j) t o = []
    · exact .inl e
    · exact .inr (h2 e)
  · rintro ⟨v, H', h1, ⟨h2, h3⟩, h4⟩
    exact ⟨v, H', h1, fun hne => h2.resolve_left hne, h3, h4⟩

theorem r_mov (j : Nat) (anc : List Nat) (d : Option Nat) (r : RTree) (x : FOpd) : FWtreeR C h (.op j anc ⟨d, none, .mov x⟩ r) seen t H K = thenK (stepAt C (h + j) t H (.mov x)) (treeRK C h r seen d t K) := r_pure j anc d _ r _root_.rfl
theorem r_pick (j : Nat) (anc : List Nat) (d : Option Nat) (r : RTree) (c a b : FOpd) : FWtreeR C h (.op j anc ⟨d, none, .pick c a b⟩ r) seen t H K = thenK (stepAt C (h + j) t H (.pick c a b)) (treeRK C h r seen d t K) := r_pure j anc d _ r _root_.rfl
theorem r_build (j : Nat) (anc : List Nat) (d : Option Nat) (r : RTree) (z : List AVal) (ps : List (Nat × Nat × FOpd)) : FWtreeR C h (.op j anc ⟨d, none, .build z ps⟩ r) seen t H K = thenK (stepAt C (h + j) t H (.build z ps)) (treeRK C h r seen d t K) := r_pure j anc d _ r _root_.rfl
theorem r_nilchk (j : Nat) (anc : List Nat) (d : Option Nat) (r : RTree) (x : FOpd) : FWtreeR C h (.op j anc ⟨d, none, .nilchk x⟩ r) seen t H K = thenK (stepAt C (h + j) t H (.nilchk x)) (treeRK C h r seen d t K) := r_pure j anc d _ r _root_.rfl
theorem r_bin (j : Nat) (anc : List Nat) (d : Option Nat) (r : RTree) (op : BinOp) (c : Cls) (x y : FOpd) : FWtreeR C h (.op j anc ⟨d, none, .bin op c x y⟩ r) seen t H K = thenK (stepAt C (h + j) t H (.bin op c x y)) (treeRK C h r seen d t K) := r_pure j anc d _ r _root_.rfl
theorem r_un (j : Nat) (anc : List Nat) (d : Option Nat) (r : RTree) (op : UnOp) (x : FOpd) : FWtreeR C h (.op j anc ⟨d, none, .un op x⟩ r) seen t H K = thenK (stepAt C (h + j) t H (.un op x)) (treeRK C h r seen d t K) := r_pure j anc d _ r _root_.rfl
theorem r_conv (j : Nat) (anc : List Nat) (d : Option Nat) (r : RTree) (k : IntKind) (x : FOpd) : FWtreeR C h (.op j anc ⟨d, none, .conv k x⟩ r) seen t H K = thenK (stepAt C (h + j) t H (.conv k x)) (treeRK C h r seen d t K) := r_pure j anc d _ r _root_.rfl
theorem r_mkfn (j : Nat) (anc : List Nat) (d : Option Nat) (r : RTree) (f : Nat) (caps : List FOpd) : FWtreeR C h (.op j anc ⟨d, none, .mkfn f caps⟩ r) seen t H K = thenK (stepAt C (h + j) t H (.mkfn f caps)) (treeRK C h r seen d t K) := r_pure j anc d _ r _root_.rfl
theorem r_mkmth (j : Nat) (anc : List Nat) (d : Option Nat) (r : RTree) (f : Nat) (caps : List FOpd) : FWtreeR C h (.op j anc ⟨d, none, .mkmth f caps⟩ r) seen t H K = thenK (stepAt C (h + j) t H (.mkmth f caps)) (treeRK C h r seen d t K) := r_pure j anc d _ r _root_.rfl
theorem r_sliceS (j : Nat) (anc : List Nat) (d : Option Nat) (r : RTree) (x : FOpd) (lo hi : Option FOpd) : FWtreeR C h (.op j anc ⟨d, none, .sliceS x lo hi⟩ r) seen t H K = thenK (stepAt C (h + j) t H (.sliceS x lo hi)) (treeRK C h r seen d t K) := r_pure j anc d _ r _root_.rfl
theorem r_faddr (j : Nat) (anc : List Nat) (d : Option Nat) (r : RTree) (off : Nat) (x : FOpd) : FWtreeR C h (.op j anc ⟨d, none, .faddr off x⟩ r) seen t H K = thenK (stepAt C (h + j) t H (.faddr off x)) (treeRK C h r seen d t K) := r_pure j anc d _ r _root_.rfl
theorem r_field (j : Nat) (anc : List Nat) (d : Option Nat) (r : RTree) (off : Nat) (n : Option Nat) (x : FOpd) : FWtreeR C h (.op j anc ⟨d, none, .field off n x⟩ r) seen t H K = thenK (stepAt C (h + j) t H (.field off n x)) (treeRK C h r seen d t K) := r_pure j anc d _ r _root_.rfl
theorem r_iaddr (j : Nat) (anc : List Nat) (d : Option Nat) (r : RTree) (e : Nat) (x i : FOpd) : FWtreeR C h (.op j anc ⟨d, none, .iaddr e x i⟩ r) seen t H K = thenK (stepAt C (h + j) t H (.iaddr e x i)) (treeRK C h r seen d t K) := r_pure j anc d _ r _root_.rfl
theorem r_iaddrA (j : Nat) (anc : List Nat) (d : Option Nat) (r : RTree) (l e : Nat) (x i : FOpd) : FWtreeR C h (.op j anc ⟨d, none, .iaddrA l e x i⟩ r) seen t H K = thenK (stepAt C (h + j) t H (.iaddrA l e x i)) (treeRK C h r seen d t K) := r_pure j anc d _ r _root_.rfl
theorem r_indexS (j : Nat) (anc : List Nat) (d : Option Nat) (r : RTree) (x i : FOpd) : FWtreeR C h (.op j anc ⟨d, none, .indexS x i⟩ r) seen t H K = thenK (stepAt C (h + j) t H (.indexS x i)) (treeRK C h r seen d t K) := r_pure j anc d _ r _root_.rfl
theorem r_extract (j : Nat) (anc : List Nat) (d : Option Nat) (r : RTree) (x : FOpd) (i : Nat) : FWtreeR C h (.op j anc ⟨d, none, .extract x i⟩ r) seen t H K = thenK (stepAt C (h + j) t H (.extract x i)) (treeRK C h r seen d t K) := r_pure j anc d _ r _root_.rfl
theorem r_len (j : Nat) (anc : List Nat) (d : Option Nat) (r : RTree) (st : Bool) (x : FOpd) : FWtreeR C h (.op j anc ⟨d, none, .len st x⟩ r) seen t H K = thenK (stepAt C (h + j) t H (.len st x)) (treeRK C h r seen d t K) := r_pure j anc d _ r _root_.rfl
theorem r_alloc (j : Nat) (anc : List Nat) (d : Option Nat) (r : RTree) (ty : TypeId) (cells : List AVal) : FWtreeR C h (.op j anc ⟨d, none, .alloc ty cells⟩ r) seen t H K = thenK (stepAt C (h + j) t H (.alloc ty cells)) (regK C h j anc (.alloc ty cells) d r seen t H K) := r_reg j anc d _ r _root_.rfl
theorem r_box (j : Nat) (anc : List Nat) (d : Option Nat) (r : RTree) (ty : TypeId) (x : FOpd) : FWtreeR C h (.op j anc ⟨d, none, .box ty x⟩ r) seen t H K = thenK (stepAt C (h + j) t H (.box ty x)) (regK C h j anc (.box ty x) d r seen t H K) := r_reg j anc d _ r _root_.rfl
theorem r_bslice (j : Nat) (anc : List Nat) (d : Option Nat) (r : RTree) (ty e : Nat) (z : List AVal) (n : Nat) (ps : List (Nat × Nat × FOpd)) : FWtreeR C h (.op j anc ⟨d, none, .bslice ty e z n ps⟩ r) seen t H K = thenK (stepAt C (h + j) t H (.bslice ty e z n ps)) (regK C h j anc (.bslice ty e z n ps) d r seen t H K) := r_reg j anc d _ r _root_.rfl
theorem r_load (j : Nat) (anc : List Nat) (d : Option Nat) (r : RTree) (n : Option Nat) (x : FOpd) : FWtreeR C h (.op j anc ⟨d, none, .load n x⟩ r) seen t H K = thenK (stepAt C (h + j) t H (.load n x)) (regK C h j anc (.load n x) d r seen t H K) := r_reg j anc d _ r _root_.rfl
theorem r_store (j : Nat) (anc : List Nat) (d : Option Nat) (r : RTree) (n : Nat) (a x : FOpd) : FWtreeR C h (.op j anc ⟨d, none, .store n a x⟩ r) seen t H K = thenK (stepAt C (h + j) t H (.store n a x)) (regK C h j anc (.store n a x) d r seen t H K) := r_reg j anc d _ r _root_.rfl
theorem r_s2b (j : Nat) (anc : List Nat) (d : Option Nat) (r : RTree) (ty : Nat) (sm : Bool) (x : FOpd) : FWtreeR C h (.op j anc ⟨d, none, .s2b ty sm x⟩ r) seen t H K = thenK (stepAt C (h + j) t H (.s2b ty sm x)) (regK C h j anc (.s2b ty sm x) d r seen t H K) := r_reg j anc d _ r _root_.rfl
theorem r_b2s (j : Nat) (anc : List Nat) (d : Option Nat) (r : RTree) (x : FOpd) : FWtreeR C h (.op j anc ⟨d, none, .b2s x⟩ r) seen t H K = thenK (stepAt C (h + j) t H (.b2s x)) (regK C h j anc (.b2s x) d r seen t H K) := r_reg j anc d _ r _root_.rfl
theorem r_mkslice (j : Nat) (anc : List Nat) (d : Option Nat) (r : RTree) (ty b : Nat) (z : List AVal) (x y : FOpd) : FWtreeR C h (.op j anc ⟨d, none, .mkslice ty b z x y⟩ r) seen t H K = thenK (stepAt C (h + j) t H (.mkslice ty b z x y)) (regK C h j anc (.mkslice ty b z x y) d r seen t H K) := r_reg j anc d _ r _root_.rfl
theorem r_slice (j : Nat) (anc : List Nat) (d : Option Nat) (r : RTree) (ty e : Nat) (x : FOpd) (lo hi mx : Option FOpd) : FWtreeR C h (.op j anc ⟨d, none, .slice ty e x lo hi mx⟩ r) seen t H K = thenK (stepAt C (h + j) t H (.slice ty e x lo hi mx)) (regK C h j anc (.slice ty e x lo hi mx) d r seen t H K) := r_reg j anc d _ r _root_.rfl
theorem r_append (j : Nat) (anc : List Nat) (d : Option Nat) (r : RTree) (ty e b : Nat) (s x : FOpd) : FWtreeR C h (.op j anc ⟨d, none, .append ty e b s x⟩ r) seen t H K = thenK (stepAt C (h + j) t H (.append ty e b s x)) (regK C h j anc (.append ty e b s x) d r seen t H K) := r_reg j anc d _ r _root_.rfl
theorem ids_alloc (t : Fr) (ty : TypeId) (cells : List AVal) : opIds t (.alloc ty cells) = [] := _root_.id rfl
theorem mods_alloc (p : Nat) (t : Fr) (ty : TypeId) (cells : List AVal) : opMods p t (.alloc ty cells) = [p] := _root_.id rfl
theorem ids_box (t : Fr) (ty : TypeId) (x : FOpd) : opIds t (.box ty x) = [] := _root_.id rfl
theorem mods_box (p : Nat) (t : Fr) (ty : TypeId) (x : FOpd) : opMods p t (.box ty x) = [p] := _root_.id rfl
theorem ids_bslice (t : Fr) (ty e : Nat) (z : List AVal) (n : Nat) (ps : List (Nat × Nat × FOpd)) : opIds t (.bslice ty e z n ps) = [] := _root_.id rfl
theorem mods_bslice (p : Nat) (t : Fr) (ty e : Nat) (z : List AVal) (n : Nat) (ps : List (Nat × Nat × FOpd)) : opMods p t (.bslice ty e z n ps) = [p] := _root_.id rfl
theorem ids_load (t : Fr) (n : Option Nat) (x : FOpd) : opIds t (.load n x) = idA (evalO t x) := _root_.id rfl
theorem mods_load (p : Nat) (t : Fr) (n : Option Nat) (x : FOpd) : opMods p t (.load n x) = [] := _root_.id rfl
theorem ids_store (t : Fr) (n : Nat) (a x : FOpd) : opIds t (.store n a x) = idA (evalO t a) := _root_.id rfl
theorem mods_store (p : Nat) (t : Fr) (n : Nat) (a x : FOpd) : opMods p t (.store n a x) = idA (evalO t a) := _root_.id rfl
theorem ids_s2b (t : Fr) (ty : Nat) (sm : Bool) (x : FOpd) : opIds t (.s2b ty sm x) = idA (evalO t x) := _root_.id rfl
theorem mods_s2b (p : Nat) (t : Fr) (ty : Nat) (sm : Bool) (x : FOpd) : opMods p t (.s2b ty sm x) = [p] := _root_.id rfl
theorem ids_b2s (t : Fr) (x : FOpd) : opIds t (.b2s x) = idA (evalO t x) := _root_.id rfl
theorem mods_b2s (p : Nat) (t : Fr) (x : FOpd) : opMods p t (.b2s x) = [] := _root_.id rfl
theorem ids_mkslice (t : Fr) (ty b : Nat) (z : List AVal) (x y : FOpd) : opIds t (.mkslice ty b z x y) = [] := _root_.id rfl
theorem mods_mkslice (p : Nat) (t : Fr) (ty b : Nat) (z : List AVal) (x y : FOpd) : opMods p t (.mkslice ty b z x y) = [p] := _root_.id rfl
theorem ids_slice (t : Fr) (ty e : Nat) (x : FOpd) (lo hi mx : Option FOpd) : opIds t (.slice ty e x lo hi mx) = idA (evalO t x) := _root_.id rfl
theorem mods_slice (p : Nat) (t : Fr) (ty e : Nat) (x : FOpd) (lo hi mx : Option FOpd) : opMods p t (.slice ty e x lo hi mx) = [] := _root_.id rfl
theorem ids_append (t : Fr) (ty e b : Nat) (s x : FOpd) : opIds t (.append ty e b s x) = idA (evalO t s) ++ idA (evalO t x) := _root_.id rfl
theorem mods_append (p : Nat) (t : Fr) (ty e b : Nat) (s x : FOpd) : opMods p t (.append ty e b s x) = p :: idA (evalO t s) := _root_.id rfl
theorem idA_ptr (a : AAd) : idA (.ptr a) = idOf a := _root_.id rfl
theorem idA_arr (i n : Nat) : idA (.arr i n) = [i] := _root_.id rfl
theorem idA_slc (a : AAd) (n : Nat) : idA (.slc a n) = idOf a := _root_.id rfl
theorem idA_nils : idA .nils = [] := _root_.id rfl
theorem idA_str (s : ByteArray) : idA (.str s) = [] := _root_.id rfl
theorem idOf_loc (i o : Nat) : idOf (.loc i o) = [i] := _root_.id rfl
theorem idOf_base (a : Addr) : idOf (.base a) = [] := _root_.id rfl
theorem r_guard (j : Nat) (anc : List Nat) (d : Option Nat) (g : Nat) (b : Bool) (o : FOp) (r : RTree) : FWtreeR C h (.op j anc ⟨d, some (g, b), o⟩ r) seen t H K = guardK (t g) b (FWtreeR C h (.op j anc ⟨d, none, o⟩ r) seen t H K) (FWtreeR C h r seen (putO t d (.tup [])) H K) := by
  apply propext
  simp only [FWtreeR, FStepR, runs, guardK]
  cases t g <;> simp
  rename_i bb
  by_cases e : bb = b
  · subst e; simp
  · simp [e]

theorem FWtreeR_call {j : Nat} {anc : List Nat} {d : Option Nat} {f : FOpd} {args : List FOpd} {r : RTree} : FWtreeR C h (.op j anc ⟨d, none, .call f args⟩ r) seen t H K ↔ FWop C (.call f args) t H fun v H' => Keeps anc seen H H' ∧ FWtreeR C h r seen (putO t d v) H' K := by
  simp [FWtreeR, FStepR, runs, regOp]

/-- A CALL in such a region. -/
theorem FWtreeR_callR {j : Nat} {anc : List Nat} {f : FOpd} {args : List FOpd} {d : Option Nat} {r : RTree} {fi : Nat} {caps args' : List AVal} {Post : AVal → AHeap → Prop}
    (hf : evalO t f = .fn fi caps) (ha : args.map (evalO t) ++ caps = args') (hc : FCalls C fi args' H Post) (hk : ∀ v H', Post v H' → Keeps anc seen H H' ∧ FWtreeR C h r seen (putO t d v) H' K) : FWtreeR C h (.op j anc ⟨d, none, .call f args⟩ r) seen t H K := by
  rw [FWtreeR_call]
  simp only [FWop, hf, ha]
  exact hc.mono hk
theorem keeps_nil (anc : List Nat) (H H' : AHeap) : Keeps anc [] H H' = True := by simp [Keeps]
theorem keeps_cons (anc a m : List Nat) (i : Nat) (s : Seen) (H H' : AHeap) : Keeps anc ((i, a, m) :: s) H H' = ((i ∈ anc ∨ ∀ id ∈ a, hget H' id = hget H id) ∧ Keeps anc s H H') := by
  simp [Keeps]
theorem seen_nil (anc all mods : List Nat) : SeenOK anc [] all mods = True := by simp [SeenOK]
theorem seen_cons (anc all mods a m : List Nat) (i : Nat) (s : Seen) : SeenOK anc ((i, a, m) :: s) all mods = ((i ∈ anc ∨ ((∀ x ∈ m, x ∉ all) ∧ ∀ x ∈ mods, x ∉ a)) ∧ SeenOK anc s all mods) := by
  simp [SeenOK]
end

theorem ite_bool (c : Prop) [Decidable c] (x y : Bool) : (if c then AVal.bool x else AVal.bool y) = AVal.bool (if c then x else y) := by split <;> rfl
theorem put_same (t : Fr) (i : Nat) (v : AVal) : put t i v i = v := by simp [put]
theorem put_ne (t : Fr) (i j : Nat) (v : AVal) (h : j ≠ i) : put t i v j = t j := by simp [put, h]
theorem putO_some (t : Fr) (i : Nat) (v : AVal) : putO t (some i) v = put t i v := _root_.id rfl
theorem putO_none (t : Fr) (v : AVal) : putO t none v = t := _root_.id rfl
theorem evalO_tmp (t : Fr) (i : Nat) : evalO t (.tmp i) = t i := _root_.id rfl
theorem evalO_val (t : Fr) (v : AVal) : evalO t (.val v) = v := _root_.id rfl

/-! values -/
theorem frA_apply (l : List AVal) (i : Nat) : frA l i = (l[i]?).getD .any := _root_.id rfl
attribute [simp] frA_apply

theorem nilchk_ptr (a : AAd) : nilchkA (.ptr a) = some (.ptr a) := _root_.id rfl
theorem nilchk_fn (f : Nat) (c : List AVal) : nilchkA (.fn f c) = some (.fn f c) := _root_.id rfl
theorem faddr_ptr (o : Nat) (a : AAd) : faddrA o (.ptr a) = some (.ptr (addA a o)) := _root_.id rfl
theorem add_loc (i o n : Nat) : addA (.loc i o) n = .loc i (o + n) := _root_.id rfl
theorem add_base (a : Addr) (n : Nat) : addA (.base a) n = .base (a.add n) := _root_.id rfl
theorem load_one (C : Ctx) (H : AHeap) (p : AAd) : loadA C H none (.ptr p) = ldc C H p 0 := _root_.id rfl
theorem load_agg (C : Ctx) (H : AHeap) (n : Nat) (p : AAd) : loadA C H (some n) (.ptr p) = (ldn C H p 0 n).map .agg := _root_.id rfl
theorem ldc_loc (C : Ctx) (H : AHeap) (i o j : Nat) : ldc C H (.loc i o) j = (hget H i).bind fun b => b.cells[o + j]? := _root_.id rfl
theorem ldc_base (C : Ctx) (H : AHeap) (a : Addr) (j : Nat) : ldc C H (.base a) j = C.B (a.add j) := _root_.id rfl
theorem hget_nil (i : Nat) : hget [] i = none := _root_.id rfl
theorem hget_zero (x : Option ABlk) (H : AHeap) : hget (x :: H) 0 = x := by simp [hget]
theorem hget_succ (x : Option ABlk) (H : AHeap) (i : Nat) : hget (x :: H) (i + 1) = hget H i := by simp [hget]
theorem lenV_arr (i n : Nat) : lenV false (.arr i n) = some (.int .i64 n) := _root_.id rfl
theorem lenV_slc (a : AAd) (n : Nat) : lenV false (.slc a n) = some (.int .i64 n) := _root_.id rfl
theorem lenV_nils : lenV false .nils = some (.int .i64 0) := _root_.id rfl
theorem lenV_str (s : ByteArray) : lenV true (.str s) = some (.int .i64 s.size) := _root_.id rfl
theorem extract_tup (i : Nat) (l : List AVal) : extractA i (.tup l) = l[i]? := _root_.id rfl
theorem pick_bool (b : Bool) (x y : AVal) : pickA (.bool b) x y = some (if b then x else y) := _root_.id rfl
theorem un_not (b : Bool) : unA .not (.bool b) = some (.bool (!b)) := _root_.id rfl
theorem un_neg (k : IntKind) (n : Int) : unA .neg (.int k n) = some (.int k (k.wrap (0 - n))) := _root_.id rfl
theorem conv_int (k k' : IntKind) (n : Int) : convA k (.int k' n) = some (.int k (k.wrap n)) := _root_.id rfl
section
variable (c : Cls) (k : IntKind) (a b : Int)
theorem bin_add : binA .add c (.int k a) (.int k b) = some (.int k (k.wrap (a + b))) := by simp [binA, arithI]
theorem bin_sub : binA .sub c (.int k a) (.int k b) = some (.int k (k.wrap (a - b))) := by simp [binA, arithI]
theorem bin_mul : binA .mul c (.int k a) (.int k b) = some (.int k (k.wrap (a * b))) := by simp [binA, arithI]
theorem bin_quo (h : b ≠ 0) : binA .quo c (.int k a) (.int k b) = some (.int k (k.wrap (a.tdiv b))) := by simp [binA, arithI, h]
theorem bin_rem (h : b ≠ 0) : binA .rem c (.int k a) (.int k b) = some (.int k (a.tmod b)) := by simp [binA, arithI, h]
theorem bin_eqlI : binA .eql c (.int k a) (.int k b) = some (.bool (decide (a = b))) := by simp [binA, arithI]; rfl
theorem bin_neqI : binA .neq c (.int k a) (.int k b) = some (.bool (!decide (a = b))) := by simp [binA, arithI, bne]; rfl
theorem bin_lss : binA .lss c (.int k a) (.int k b) = some (.bool (decide (a < b))) := by simp [binA, arithI]
theorem bin_leq : binA .leq c (.int k a) (.int k b) = some (.bool (decide (a ≤ b))) := by simp [binA, arithI]
theorem bin_gtr : binA .gtr c (.int k a) (.int k b) = some (.bool (decide (b < a))) := by simp [binA, arithI]
theorem bin_geq : binA .geq c (.int k a) (.int k b) = some (.bool (decide (b ≤ a))) := by simp [binA, arithI]
theorem bin_and : binA .and c (.int k a) (.int k b) = some (.int k (k.wrap ((BitVec.ofInt k.bits a &&& BitVec.ofInt k.bits b).toNat))) := by simp [binA, arithI]
theorem bin_or : binA .or c (.int k a) (.int k b) = some (.int k (k.wrap ((BitVec.ofInt k.bits a ||| BitVec.ofInt k.bits b).toNat))) := by simp [binA, arithI]
theorem bin_shl (k' : IntKind) (h : ¬ b < 0) : binA .shl c (.int k a) (.int k' b) = some (.int k (k.wrap (a * 2 ^ (min b.toNat k.bits)))) := by simp [binA, shiftI, h]
theorem bin_shr (k' : IntKind) (h : ¬ b < 0) : binA .shr c (.int k a) (.int k' b) = some (.int k (a.fdiv (2 ^ (min b.toNat k.bits)))) := by simp [binA, shiftI, h]
end
theorem bin_eqlO (c : Cls) (x y : AVal) (b : Bool) (h : eqI c x y = some b) : binA .eql c x y = some (.bool b) := by
  cases x <;> cases y <;> first | (simp [eqI] at h; done) | (simp only [binA]; rw [h]; rfl)
theorem bin_neqO (c : Cls) (x y : AVal) (b : Bool) (h : eqI c x y = some b) : binA .neq c x y = some (.bool (!b)) := by
  cases x <;> cases y <;> first | (simp [eqI] at h; done) | (simp only [binA]; rw [h]; rfl)
section
theorem eq_pn (a : AAd) : binA .eql .pointer (.ptr a) .nilp = some (.bool false) := _root_.id rfl
theorem eq_nn : binA .eql .pointer .nilp .nilp = some (.bool true) := _root_.id rfl
theorem ne_pn (a : AAd) : binA .neq .pointer (.ptr a) .nilp = some (.bool true) := _root_.id rfl
theorem ne_nn : binA .neq .pointer .nilp .nilp = some (.bool false) := _root_.id rfl
theorem eq_an (i n : Nat) : binA .eql .slice (.arr i n) .nils = some (.bool false) := _root_.id rfl
theorem eq_sn (a : AAd) (n : Nat) : binA .eql .slice (.slc a n) .nils = some (.bool false) := _root_.id rfl
theorem eq_sl : binA .eql .slice .nils .nils = some (.bool true) := _root_.id rfl
theorem ne_an (i n : Nat) : binA .neq .slice (.arr i n) .nils = some (.bool true) := _root_.id rfl
theorem ne_sn (a : AAd) (n : Nat) : binA .neq .slice (.slc a n) .nils = some (.bool true) := _root_.id rfl
theorem ne_sl : binA .neq .slice .nils .nils = some (.bool false) := _root_.id rfl
theorem eq_bb (a b : Bool) : binA .eql .bool (.bool a) (.bool b) = some (.bool (a == b)) := _root_.id rfl
theorem ne_bb (a b : Bool) : binA .neq .bool (.bool a) (.bool b) = some (.bool (!(a == b))) := _root_.id rfl
theorem eq_ss (c : Cls) (a b : ByteArray) : binA .eql c (.str a) (.str b) = some (.bool (a.toList == b.toList)) := _root_.id rfl
theorem ne_ss (c : Cls) (a b : ByteArray) : binA .neq c (.str a) (.str b) = some (.bool (!(a.toList == b.toList))) := _root_.id rfl
end
section
variable {x : AVal}
theorem idx_arr (e i n : Nat) (k : IntKind) (j : Int) (h0 : 0 ≤ j) (h1 : j < n) : iaddrO e (.arr i n) (.int k j) = some (.ptr (.loc i (j.toNat * e))) := by simp [iaddrO, h0, h1]
theorem idx_slc (e : Nat) (a : AAd) (n : Nat) (k : IntKind) (j : Int) (h0 : 0 ≤ j) (h1 : j < n) : iaddrO e (.slc a n) (.int k j) = some (.ptr (addA a (j.toNat * e))) := by simp [iaddrO, h0, h1]
theorem idx_array (l e : Nat) (a : AAd) (k : IntKind) (j : Int) (h0 : 0 ≤ j) (h1 : j < l) : iaddrArr l e (.ptr a) (.int k j) = some (.ptr (addA a (j.toNat * e))) := by simp [iaddrArr, h0, h1]
end
theorem s2b_str (H : AHeap) (ty : Nat) (sm : Bool) (s : ByteArray) : s2bE H ty sm (.str s) = some (.arr H.length s.size, H ++ [some ⟨bytesL s, ty⟩]) := _root_.id rfl
theorem s2b_arr (H : AHeap) (ty i n : Nat) : s2bE H ty true (.arr i n) = if (hget H i).isSome = true then some (.arr i n, H) else none := by simp [s2bE]
theorem eq_gg (n : Nat) (l : List (Nat × Nat)) (xs ys : List AVal) : binA .eql (.flat n l) (.agg xs) (.agg ys) = (if xs.length = n ∧ ys.length = n then eqOffs xs ys l else none).map .bool := _root_.id rfl
theorem ne_gg (n : Nat) (l : List (Nat × Nat)) (xs ys : List AVal) : binA .neq (.flat n l) (.agg xs) (.agg ys) = (if xs.length = n ∧ ys.length = n then eqOffs xs ys l else none).map fun b => .bool (!b) := _root_.id rfl
def andO : Option Bool → Option Bool → Option Bool
  | some b, some b' => some (b && b')
  | _, _ => none
def cellO (k : Nat) : Option AVal → Option AVal → Option Bool
  | some x, some y => eqOne k x y
  | _, _ => none
theorem eqOffs_nil (xs ys : List AVal) : eqOffs xs ys [] = some true := _root_.id rfl
theorem eqOffs_cons (xs ys : List AVal) (i k : Nat) (r : List (Nat × Nat)) : eqOffs xs ys ((i, k) :: r) = andO (cellO k xs[i]? ys[i]?) (eqOffs xs ys r) := by
  simp only [eqOffs]
  cases xs[i]? with
  | none => rfl
  | some x => cases ys[i]? with
    | none => rfl
    | some y => simp only [cellO]; cases eqOne k x y <;> cases eqOffs xs ys r <;> rfl
theorem andO_some (b b' : Bool) : andO (some b) (some b') = some (b && b') := _root_.id rfl
theorem cellO_some (k : Nat) (x y : AVal) : cellO k (some x) (some y) = eqOne k x y := _root_.id rfl
theorem eqOne_int (k : IntKind) (a b : Int) : eqOne 1 (.int k a) (.int k b) = some (decide (a = b)) := by simp [eqOne]; rfl
theorem eqOne_bool (a b : Bool) : eqOne 0 (.bool a) (.bool b) = some (a == b) := _root_.id rfl
theorem eqOne_str (a b : ByteArray) : eqOne 2 (.str a) (.str b) = some (a.toList == b.toList) := _root_.id rfl
theorem nilchk_mth (f : Nat) (c : List AVal) : nilchkA (.mth f c) = some (.mth f c) := _root_.id rfl
theorem field_one (o : Nat) (l : List AVal) : fieldA o none (.agg l) = l[o]? := _root_.id rfl
theorem ldn_zero (C : Ctx) (H : AHeap) (a : AAd) (j : Nat) : ldn C H a j 0 = some [] := _root_.id rfl
def consO (o : Option AVal) (l : Option (List AVal)) : Option (List AVal) := match o with
  | some v => match l with
    | some l => some (v :: l)
    | none => none
  | none => none
theorem ldn_succ (C : Ctx) (H : AHeap) (a : AAd) (j n : Nat) : ldn C H a j (n + 1) = consO (ldc C H a j) (ldn C H a (j + 1) n) := _root_.id rfl
theorem consO_some (v : AVal) (l : List AVal) : consO (some v) (some l) = some (v :: l) := _root_.id rfl

attribute [simp ↓] treeRK_eq regK_eq entK_eq x_drawR r_done r_both r_top r_guard r_mov r_pick r_build r_nilchk r_bin r_un r_conv r_mkfn r_mkmth r_sliceS r_faddr r_field r_iaddr r_iaddrA r_indexS r_extract r_len r_alloc r_box r_bslice r_load r_store r_s2b r_b2s r_mkslice r_slice r_append stepK_eq nextK_eq treeK_eq x_skip x_ops x_draw t_done t_ops t_both t_top x_seq x_cond x_block x_loop x_exit x_scope x_label x_goto x_ret s_normal s_exit s_ret s_goto b_normal b_same b_other b_ret b_goto l_normal l_exit l_ret l_goto
  FWops_nil FWops_guard thenK_some thenK_none guardK_true guardK_false guardK_tup condK_true condK_false o_mov o_pick o_alloc o_box o_build o_bslice o_load o_store o_nilchk o_bin o_un o_conv o_mkfn o_sliceS o_slice o_faddr o_field o_iaddr o_iaddrA o_indexS o_extract o_len o_append o_clear o_mkmth o_s2b o_b2s o_mkslice
attribute [simp] twoK_eq keeps_nil keeps_cons seen_nil seen_cons opAll ids_alloc mods_alloc ids_box mods_box ids_bslice mods_bslice ids_load mods_load ids_store mods_store ids_s2b mods_s2b ids_b2s mods_b2s ids_mkslice mods_mkslice ids_slice mods_slice ids_append mods_append idA_ptr idA_arr idA_slc idA_nils idA_str idOf_loc idOf_base s_mov s_pick s_alloc s_box s_build s_bslice s_load s_store s_nilchk s_bin s_un s_conv s_mkfn s_mkmth s_s2b s_b2s s_mkslice s_sliceS s_slice s_faddr s_field s_iaddr s_iaddrA s_indexS s_extract s_len s_append s_clear
attribute [simp] movA_eq withH_some put_same put_ne putO_some putO_none evalO_tmp evalO_val ite_bool
  nilchk_ptr nilchk_fn faddr_ptr add_loc add_base load_one load_agg ldc_loc ldc_base hget_nil hget_zero hget_succ lenV_arr lenV_slc lenV_nils lenV_str extract_tup pick_bool un_not un_neg conv_int
  bin_add bin_sub bin_mul bin_quo bin_rem bin_eqlI bin_neqI bin_lss bin_leq bin_gtr bin_geq bin_and bin_or bin_shl bin_shr eq_pn eq_nn ne_pn ne_nn eq_an eq_sn eq_sl ne_an ne_sn ne_sl eq_bb ne_bb eq_ss ne_ss
  s2b_str s2b_arr eq_gg ne_gg eqOffs_nil eqOffs_cons andO_some cellO_some eqOne_int eqOne_bool eqOne_str nilchk_mth
  idx_arr idx_slc idx_array field_one ldn_zero ldn_succ consO_some

end Go.F
