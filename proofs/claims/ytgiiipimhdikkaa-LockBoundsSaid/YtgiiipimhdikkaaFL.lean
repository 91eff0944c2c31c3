/- The walk by rewriting. -/
import Derived.Test.YtgiiipimhdikkaaFK
set_option linter.all false
namespace Go.F
open Go.RowKit

/-- what follows, if there is something -/
def thenK (o : Option (AVal × AHeap)) (k : AVal → AHeap → Prop) : Prop := match o with
  | some (v, H) => k v H
  | none => False

theorem thenK_congr {o o' : Option (AVal × AHeap)} (h : o = o') (k : AVal → AHeap → Prop) : thenK o k = thenK o' k := by rw [h]
attribute [congr] thenK_congr
theorem thenK_some (v : AVal) (H : AHeap) (k : AVal → AHeap → Prop) : thenK (some (v, H)) k = k v H := _root_.id rfl
theorem thenK_none (k : AVal → AHeap → Prop) : thenK none k = False := _root_.id rfl

theorem FCalls_congr {C : Ctx} {f : Nat} {args args' : List AVal} {H H' : AHeap} (ha : args = args') (hh : H = H') (Post : AVal → AHeap → Prop) : FCalls C f args H Post = FCalls C f args' H' Post := by rw [ha, hh]

theorem FWops_congr {C : Ctx} {l : List FOper} {t t' : Fr} {H H' : AHeap} (ht : t = t') (hh : H = H') (K : Fr → AHeap → Prop) : FWops C l t H K = FWops C l t' H' K := by rw [ht, hh]
attribute [congr] FWops_congr

def guardK (v : AVal) (b : Bool) (p q : Prop) : Prop := match v with
  | .bool bb => if bb = b then p else q
  | .tup _ => q
  | _ => False

theorem guardK_congr {v v' : AVal} (h : v = v') (b : Bool) (p q : Prop) : guardK v b p q = guardK v' b p q := by rw [h]
attribute [congr] guardK_congr

theorem guardK_true (b : Bool) (p q : Prop) (bb : Bool) (h : bb = b) : guardK (.bool bb) b p q = p := by simp [guardK, h]
theorem guardK_false (b : Bool) (p q : Prop) (bb : Bool) (h : ¬ bb = b) : guardK (.bool bb) b p q = q := by simp [guardK, h]

theorem guardK_tup (b : Bool) (p q : Prop) (l : List AVal) : guardK (.tup l) b p q = q := _root_.id rfl

theorem FWop_stepOp {C : Ctx} {o : FOp} {t : Fr} {H : AHeap} {k : AVal → AHeap → Prop} (h : o.kl ≠ .call) : FWop C o t H k = thenK (stepOp C t H o) k := by
  cases o <;> first | exact absurd rfl h | rfl

/-- what follows in the list -/
def stepK (C : Ctx) (r : List FOper) (d : Option Nat) (t : Fr) (K : Fr → AHeap → Prop) : AVal → AHeap → Prop := fun v H' => FWops C r (putO t d v) H' K
theorem stepK_eq (C : Ctx) (r : List FOper) (d : Option Nat) (t : Fr) (K : Fr → AHeap → Prop) (v : AVal) (H : AHeap) : stepK C r d t K v H = FWops C r (putO t d v) H K := _root_.id rfl

/-- the list, its first operation unguarded -/
theorem FWops_step {C : Ctx} {o : FOp} {d : Option Nat} {r : List FOper} {t : Fr} {H : AHeap} {K : Fr → AHeap → Prop} (h : o.kl ≠ .call) :
    FWops C (⟨d, none, o⟩ :: r) t H K = thenK (stepOp C t H o) fun v H' => FWops C r (putO t d v) H' K := by
  rw [← FWop_stepOp h]; rfl

theorem FWops_guard {C : Ctx} {o : FOp} {d : Option Nat} {g : Nat} {b : Bool} {r : List FOper} {t : Fr} {H : AHeap} {K : Fr → AHeap → Prop} :
    FWops C (⟨d, some (g, b), o⟩ :: r) t H K = guardK (t g) b (FWops C (⟨d, none, o⟩ :: r) t H K) (FWops C r (putO t d (.tup [])) H K) := by
  simp only [FWops, guardK]
  cases t g <;> rfl

def callK (C : Ctx) (f : AVal) (args : List AVal) (H : AHeap) (k : AVal → AHeap → Prop) : Prop := match f with
  | .fn fi caps => FCalls C fi (args ++ caps) H k
  | _ => False

theorem callK_congr {C : Ctx} {f f' : AVal} {args args' : List AVal} {H H' : AHeap} (hf : f = f') (ha : args = args') (hh : H = H') (k : AVal → AHeap → Prop) : callK C f args H k = callK C f' args' H' k := by rw [hf, ha, hh]
theorem callK_fn (C : Ctx) (fi : Nat) (caps args : List AVal) (H : AHeap) (k : AVal → AHeap → Prop) : callK C (.fn fi caps) args H k = FCalls C fi (args ++ caps) H k := _root_.id rfl

theorem FWops_call {C : Ctx} {f : FOpd} {args : List FOpd} {d : Option Nat} {r : List FOper} {t : Fr} {H : AHeap} {K : Fr → AHeap → Prop} :
    FWops C (⟨d, none, .call f args⟩ :: r) t H K = callK C (evalO t f) (args.map (evalO t)) H fun v H' => FWops C r (putO t d v) H' K := _root_.id rfl

/-- A CALL, by what is known of the function. -/
theorem FWops_callR {C : Ctx} {f : FOpd} {args : List FOpd} {d : Option Nat} {r : List FOper} {t : Fr} {H : AHeap} {K : Fr → AHeap → Prop} {fi : Nat} {caps args' : List AVal} {Post : AVal → AHeap → Prop}
    (hf : evalO t f = .fn fi caps) (ha : args.map (evalO t) ++ caps = args') (h : FCalls C fi args' H Post) (hk : ∀ v H', Post v H' → FWops C r (putO t d v) H' K) : FWops C (⟨d, none, .call f args⟩ :: r) t H K := by
  rw [FWops_call, hf, callK_fn, ha]
  exact h.mono hk

theorem FWops_nil {C : Ctx} {t : Fr} {H : AHeap} {K : Fr → AHeap → Prop} : FWops C [] t H K = K t H := _root_.id rfl

/-! one equation for each kind -/
section
variable {C : Ctx} {d : Option Nat} {r : List FOper} {t : Fr} {H : AHeap} {K : Fr → AHeap → Prop}
def movA (v : AVal) (H : AHeap) : Option (AVal × AHeap) := some (v, H)
theorem movA_eq (v : AVal) (H : AHeap) : movA v H = some (v, H) := _root_.id rfl
theorem o_mov (x : FOpd) : FWops C (⟨d, none, .mov x⟩ :: r) t H K = thenK (movA (evalO t x) H) (stepK C r d t K) := _root_.id rfl

def pickA (c a b : AVal) : Option AVal := match c with
  | .bool bb => some (if bb then a else b)
  | _ => none
def withH (o : Option AVal) (H : AHeap) : Option (AVal × AHeap) := o.map fun v => (v, H)
theorem withH_some (v : AVal) (H : AHeap) : withH (some v) H = some (v, H) := _root_.id rfl
theorem o_pick (c a b : FOpd) : FWops C (⟨d, none, .pick c a b⟩ :: r) t H K = thenK (withH (pickA (evalO t c) (evalO t a) (evalO t b)) H) (stepK C r d t K) := by
  rw [FWops_step (by simp [FOp.kl])]
  congr 1
  simp only [stepOp, pickA]
  cases evalO t c <;> rfl
theorem o_alloc (ty : TypeId) (cells : List AVal) : FWops C (⟨d, none, .alloc ty cells⟩ :: r) t H K = FWops C r (putO t d (.ptr (.loc H.length 0))) (H ++ [some ⟨cells, ty⟩]) K := _root_.id rfl
def boxA (H : AHeap) (ty : TypeId) (v : AVal) : Option (AVal × AHeap) := match cellsOf v with
  | some l => some (.ptr (.loc H.length 0), H ++ [some ⟨l, ty⟩])
  | none => none
theorem o_box (ty : TypeId) (x : FOpd) : FWops C (⟨d, none, .box ty x⟩ :: r) t H K = thenK (boxA H ty (evalO t x)) (stepK C r d t K) := _root_.id rfl
theorem o_build (z : List AVal) (ps : List (Nat × Nat × FOpd)) : FWops C (⟨d, none, .build z ps⟩ :: r) t H K = thenK ((fillA z (evalP t ps)).map fun l => (.agg l, H)) (stepK C r d t K) := _root_.id rfl
theorem o_bslice (ty e : Nat) (z : List AVal) (n : Nat) (ps : List (Nat × Nat × FOpd)) : FWops C (⟨d, none, .bslice ty e z n ps⟩ :: r) t H K = thenK ((fillA z (evalP t ps)).map fun l => (.arr H.length n, H ++ [some ⟨l, ty⟩])) (stepK C r d t K) := _root_.id rfl
theorem o_load (n : Option Nat) (x : FOpd) : FWops C (⟨d, none, .load n x⟩ :: r) t H K = thenK (withH (loadA C H n (evalO t x)) H) (stepK C r d t K) := _root_.id rfl
theorem o_store (n : Nat) (a x : FOpd) : FWops C (⟨d, none, .store n a x⟩ :: r) t H K = thenK ((storeA H n (evalO t a) (evalO t x)).map fun H' => (.any, H')) (stepK C r d t K) := _root_.id rfl
theorem o_nilchk (x : FOpd) : FWops C (⟨d, none, .nilchk x⟩ :: r) t H K = thenK (withH (nilchkA (evalO t x)) H) (stepK C r d t K) := _root_.id rfl
theorem o_bin (op : BinOp) (c : Cls) (x y : FOpd) : FWops C (⟨d, none, .bin op c x y⟩ :: r) t H K = thenK (withH (binA op c (evalO t x) (evalO t y)) H) (stepK C r d t K) := _root_.id rfl
theorem o_un (op : UnOp) (x : FOpd) : FWops C (⟨d, none, .un op x⟩ :: r) t H K = thenK (withH (unA op (evalO t x)) H) (stepK C r d t K) := _root_.id rfl
def convA (k : IntKind) (x : AVal) : Option AVal := (asI x).map fun n => .int k (k.wrap n)
theorem o_conv (k : IntKind) (x : FOpd) : FWops C (⟨d, none, .conv k x⟩ :: r) t H K = thenK (withH (convA k (evalO t x)) H) (stepK C r d t K) := by
  rw [FWops_step (by simp [FOp.kl])]
  congr 1
  simp only [stepOp, convA, withH, Option.map_map, Function.comp_def]
theorem o_mkfn (f : Nat) (caps : List FOpd) : FWops C (⟨d, none, .mkfn f caps⟩ :: r) t H K = thenK (movA (.fn f (caps.map (evalO t))) H) (stepK C r d t K) := _root_.id rfl
theorem o_sliceS (x : FOpd) (lo hi : Option FOpd) : FWops C (⟨d, none, .sliceS x lo hi⟩ :: r) t H K = thenK (withH (sliceStr t (evalO t x) lo hi) H) (stepK C r d t K) := _root_.id rfl
theorem o_slice (ty e : Nat) (x : FOpd) (lo hi mx : Option FOpd) : FWops C (⟨d, none, .slice ty e x lo hi mx⟩ :: r) t H K = thenK (withH (sliceA H t ty e (evalO t x) lo hi mx) H) (stepK C r d t K) := _root_.id rfl
def faddrA (off : Nat) : AVal → Option AVal
  | .ptr a => some (.ptr (addA a off))
  | _ => none
theorem o_faddr (off : Nat) (x : FOpd) : FWops C (⟨d, none, .faddr off x⟩ :: r) t H K = thenK (withH (faddrA off (evalO t x)) H) (stepK C r d t K) := by
  rw [FWops_step (by simp [FOp.kl])]
  congr 1
  simp only [stepOp, faddrA]
  cases evalO t x <;> rfl
theorem o_field (off : Nat) (n : Option Nat) (x : FOpd) : FWops C (⟨d, none, .field off n x⟩ :: r) t H K = thenK (withH (fieldA off n (evalO t x)) H) (stepK C r d t K) := _root_.id rfl
theorem o_iaddr (e : Nat) (x i : FOpd) : FWops C (⟨d, none, .iaddr e x i⟩ :: r) t H K = thenK (withH (iaddrO e (evalO t x) (evalO t i)) H) (stepK C r d t K) := _root_.id rfl
theorem o_iaddrA (l e : Nat) (x i : FOpd) : FWops C (⟨d, none, .iaddrA l e x i⟩ :: r) t H K = thenK (withH (iaddrArr l e (evalO t x) (evalO t i)) H) (stepK C r d t K) := _root_.id rfl
theorem o_indexS (x i : FOpd) : FWops C (⟨d, none, .indexS x i⟩ :: r) t H K = thenK (withH (indexStr (evalO t x) (evalO t i)) H) (stepK C r d t K) := _root_.id rfl
def extractA (i : Nat) : AVal → Option AVal
  | .tup l => l[i]?
  | _ => none
theorem o_extract (x : FOpd) (i : Nat) : FWops C (⟨d, none, .extract x i⟩ :: r) t H K = thenK (withH (extractA i (evalO t x)) H) (stepK C r d t K) := by
  rw [FWops_step (by simp [FOp.kl])]
  congr 1
  simp only [stepOp, extractA]
  cases evalO t x <;> rfl
def lenV (st : Bool) (x : AVal) : Option AVal := (lenA st x).map fun (n : Nat) => .int .i64 n
theorem o_len (st : Bool) (x : FOpd) : FWops C (⟨d, none, .len st x⟩ :: r) t H K = thenK (withH (lenV st (evalO t x)) H) (stepK C r d t K) := by
  rw [FWops_step (by simp [FOp.kl])]
  congr 1
  simp only [stepOp, lenV, withH, Option.map_map, Function.comp_def]
theorem o_append (ty e b : Nat) (s x : FOpd) : FWops C (⟨d, none, .append ty e b s x⟩ :: r) t H K = thenK (appendA C H ty e b (evalO t s) (evalO t x)) (stepK C r d t K) := _root_.id rfl
theorem o_clear (e : Nat) (z : Array Value) (x : FOpd) : FWops C (⟨d, none, .clear e z x⟩ :: r) t H K = thenK ((clearA H z e (evalO t x)).map fun H' => (.tup [], H')) (stepK C r d t K) := _root_.id rfl
end

/-! the code -/
def FWx (X : Fx) : FC → Fr → AHeap → FQ → Prop
  | .skip, t, H, Q => Q .normal t H
  | .ops l, t, H, Q => FWops X.C l t H fun t H => Q .normal t H
  | .draw T, t, H, Q => FWtree X.C T t H fun t H => Q .normal t H
  | .seq a b, t, H, Q => FWx X a t H fun e t H => match e with | .normal => FWx X b t H Q | e => Q e t H
  | .cond c a b, t, H, Q => ∃ bb, evalO t c = .bool bb ∧ (bb = true → FWx X a t H Q) ∧ (bb = false → FWx X b t H Q)
  | .block id a, t, H, Q => FWx X a t H (blockQ id Q)
  | .loop a, t, H, Q => FW X (.loop a) t H Q
  | .exit id, t, H, Q => Q (.exit id) t H
  | .scope a, t, H, Q => FW X (.scope a) t H Q
  | .label _, t, H, Q => Q .normal t H
  | .goto l, t, H, Q => Q (.goto l) t H
  | .ret, t, H, Q => Q .ret t H

theorem FWx_sound {X : Fx} : ∀ {fc : FC} {t : Fr} {H : AHeap} {Q : FQ}, FWx X fc t H Q → FW X fc t H Q
  | .skip, _, _, _, h => FW.skip h
  | .ops _, _, _, _, h => FW.ops h
  | .draw _, _, _, _, h => FW.draw h
  | .seq a b, t, H, Q, h => by
    have h1 : FWx X a t H (fun e t H => match e with | .normal => FWx X b t H Q | e => Q e t H) := h
    refine FW.seq ((FWx_sound h1).mono fun e t H h => ?_)
    cases e with
    | normal => exact FWx_sound h
    | _ => exact h
  | .cond _ a b, _, _, _, ⟨_, h1, h2, h3⟩ => FW.cond h1 (fun e => FWx_sound (h2 e)) (fun e => FWx_sound (h3 e))
  | .block _ a, _, _, _, h => FW.block (FWx_sound h)
  | .loop _, _, _, _, h => h
  | .exit _, _, _, _, h => FW.exit h
  | .scope _, _, _, _, h => h
  | .label _, _, _, _, h => FW.label h
  | .goto _, _, _, _, h => FW.goto h
  | .ret, _, _, _, h => FW.ret h

/-- behind a: b -/
def seqX (X : Fx) (b : FC) (Q : FQ) : FQ := fun e t H => match e with
  | .normal => FWx X b t H Q
  | e => Q e t H

/-- what follows, under a name -/
theorem FWx.hide {X : Fx} {fc : FC} {t : Fr} {H : AHeap} {Q : FQ} (h : ∀ Q', Q' = Q → FWx X fc t H Q') : FWx X fc t H Q := h Q rfl

theorem FWx_congr {X : Fx} {fc : FC} {t t' : Fr} {H H' : AHeap} (ht : t = t') (hh : H = H') (Q : FQ) : FWx X fc t H Q = FWx X fc t' H' Q := by rw [ht, hh]
attribute [congr] FWx_congr
theorem FWtree_congr {C : Ctx} {T : OTree} {t t' : Fr} {H H' : AHeap} (ht : t = t') (hh : H = H') (K : Fr → AHeap → Prop) : FWtree C T t H K = FWtree C T t' H' K := by rw [ht, hh]
attribute [congr] FWtree_congr
theorem FW_congr {X : Fx} {fc : FC} {t t' : Fr} {H H' : AHeap} (ht : t = t') (hh : H = H') (Q : FQ) : FW X fc t H Q = FW X fc t' H' Q := by rw [ht, hh]
attribute [congr] FW_congr

/-- a test -/
def condK (v : AVal) (p q : Prop) : Prop := ∃ bb, v = .bool bb ∧ (bb = true → p) ∧ (bb = false → q)
theorem condK_congr {v v' : AVal} (h : v = v') (p q : Prop) : condK v p q = condK v' p q := by rw [h]
attribute [congr] condK_congr
theorem condK_true (b : Bool) (p q : Prop) (h : b = true) : condK (.bool b) p q = p := by subst h; simp [condK]
theorem condK_false (b : Bool) (p q : Prop) (h : b = false) : condK (.bool b) p q = q := by subst h; simp [condK]

section
variable {X : Fx} {t : Fr} {H : AHeap} {Q : FQ}
theorem x_skip : FWx X .skip t H Q = Q .normal t H := _root_.id rfl
def nextK (Q : FQ) : Fr → AHeap → Prop := fun t H => Q .normal t H
theorem nextK_eq : nextK Q t H = Q .normal t H := _root_.id rfl
def treeK (C : Ctx) (r : OTree) (K : Fr → AHeap → Prop) : Fr → AHeap → Prop := fun t H => FWtree C r t H K
theorem treeK_eq (C : Ctx) (r : OTree) (K : Fr → AHeap → Prop) : treeK C r K t H = FWtree C r t H K := _root_.id rfl
theorem x_ops (l : List FOper) : FWx X (.ops l) t H Q = FWops X.C l t H (nextK Q) := _root_.id rfl
theorem x_draw (T : OTree) : FWx X (.draw T) t H Q = FWtree X.C T t H (nextK Q) := _root_.id rfl
theorem t_done {C : Ctx} {K : Fr → AHeap → Prop} : FWtree C .done t H K = K t H := _root_.id rfl
theorem t_ops {C : Ctx} {K : Fr → AHeap → Prop} (l : List FOper) (r : OTree) : FWtree C (.ops l r) t H K = FWops C l t H (treeK C r K) := _root_.id rfl
theorem t_both {C : Ctx} {K : Fr → AHeap → Prop} (a b : OTree) : FWtree C (.both a b) t H K = (FWtree C a t H K ∧ FWtree C b t H K) := _root_.id rfl
theorem t_top {C : Ctx} {K : Fr → AHeap → Prop} : FWtree C .top t H K = True := _root_.id rfl
theorem x_seq (a b : FC) : FWx X (.seq a b) t H Q = FWx X a t H (seqX X b Q) := _root_.id rfl
theorem s_normal (b : FC) : seqX X b Q .normal t H = FWx X b t H Q := _root_.id rfl
theorem s_exit (b : FC) (j : Nat) : seqX X b Q (.exit j) t H = Q (.exit j) t H := _root_.id rfl
theorem s_ret (b : FC) : seqX X b Q .ret t H = Q .ret t H := _root_.id rfl
theorem s_goto (b : FC) (j : Nat) : seqX X b Q (.goto j) t H = Q (.goto j) t H := _root_.id rfl
theorem b_normal (j : Nat) : blockQ j Q .normal t H = Q .normal t H := _root_.id rfl
theorem b_same (j : Nat) : blockQ j Q (.exit j) t H = Q .normal t H := by simp [blockQ]
theorem b_other (j k : Nat) (h : k ≠ j) : blockQ j Q (.exit k) t H = Q (.exit k) t H := by simp [blockQ, h]
theorem b_ret (j : Nat) : blockQ j Q .ret t H = Q .ret t H := _root_.id rfl
theorem b_goto (j k : Nat) : blockQ j Q (.goto k) t H = Q (.goto k) t H := _root_.id rfl
theorem l_normal (I : Fr → AHeap → Nat → Prop) (m : Nat) : loopQ I m Q .normal t H = ∃ m', m' < m ∧ I t H m' := _root_.id rfl
theorem l_exit (I : Fr → AHeap → Nat → Prop) (m j : Nat) : loopQ I m Q (.exit j) t H = Q (.exit j) t H := _root_.id rfl
theorem l_ret (I : Fr → AHeap → Nat → Prop) (m : Nat) : loopQ I m Q .ret t H = Q .ret t H := _root_.id rfl
theorem l_goto (I : Fr → AHeap → Nat → Prop) (m j : Nat) : loopQ I m Q (.goto j) t H = Q (.goto j) t H := _root_.id rfl
theorem x_cond (c : FOpd) (a b : FC) : FWx X (.cond c a b) t H Q = condK (evalO t c) (FWx X a t H Q) (FWx X b t H Q) := _root_.id rfl
theorem x_block (id : Nat) (a : FC) : FWx X (.block id a) t H Q = FWx X a t H (blockQ id Q) := _root_.id rfl
theorem x_loop (a : FC) : FWx X (.loop a) t H Q = FW X (.loop a) t H Q := _root_.id rfl
theorem x_exit (id : Nat) : FWx X (.exit id) t H Q = Q (.exit id) t H := _root_.id rfl
theorem x_scope (a : FC) : FWx X (.scope a) t H Q = FW X (.scope a) t H Q := _root_.id rfl
theorem x_label (l : Nat) : FWx X (.label l) t H Q = Q .normal t H := _root_.id rfl
theorem x_goto (l : Nat) : FWx X (.goto l) t H Q = Q (.goto l) t H := _root_.id rfl
theorem x_ret : FWx X .ret t H Q = Q .ret t H := _root_.id rfl
end

theorem ite_bool (c : Prop) [Decidable c] (x y : Bool) : (if c then AVal.bool x else AVal.bool y) = AVal.bool (if c then x else y) := by split <;> rfl
theorem put_same (t : Fr) (i : Nat) (v : AVal) : put t i v i = v := by simp [put]
theorem put_ne (t : Fr) (i j : Nat) (v : AVal) (h : j ≠ i) : put t i v j = t j := by simp [put, h]
theorem putO_some (t : Fr) (i : Nat) (v : AVal) : putO t (some i) v = put t i v := _root_.id rfl
theorem putO_none (t : Fr) (v : AVal) : putO t none v = t := _root_.id rfl
theorem evalO_tmp (t : Fr) (i : Nat) : evalO t (.tmp i) = t i := _root_.id rfl
theorem evalO_val (t : Fr) (v : AVal) : evalO t (.val v) = v := _root_.id rfl

/-! values -/
theorem frA_apply (l : List AVal) (i : Nat) : frA l i = (l[i]?).getD .any := _root_.id rfl
attribute [simp] frA_apply

theorem nilchk_ptr (a : AAd) : nilchkA (.ptr a) = some (.ptr a) := _root_.id rfl
theorem nilchk_fn (f : Nat) (c : List AVal) : nilchkA (.fn f c) = some (.fn f c) := _root_.id rfl
theorem faddr_ptr (o : Nat) (a : AAd) : faddrA o (.ptr a) = some (.ptr (addA a o)) := _root_.id rfl
theorem add_loc (i o n : Nat) : addA (.loc i o) n = .loc i (o + n) := _root_.id rfl
theorem add_base (a : Addr) (n : Nat) : addA (.base a) n = .base (a.add n) := _root_.id rfl
theorem load_one (C : Ctx) (H : AHeap) (p : AAd) : loadA C H none (.ptr p) = ldc C H p 0 := _root_.id rfl
theorem load_agg (C : Ctx) (H : AHeap) (n : Nat) (p : AAd) : loadA C H (some n) (.ptr p) = (ldn C H p 0 n).map .agg := _root_.id rfl
theorem ldc_loc (C : Ctx) (H : AHeap) (i o j : Nat) : ldc C H (.loc i o) j = (hget H i).bind fun b => b.cells[o + j]? := _root_.id rfl
theorem ldc_base (C : Ctx) (H : AHeap) (a : Addr) (j : Nat) : ldc C H (.base a) j = C.B (a.add j) := _root_.id rfl
theorem hget_nil (i : Nat) : hget [] i = none := _root_.id rfl
theorem hget_zero (x : Option ABlk) (H : AHeap) : hget (x :: H) 0 = x := by simp [hget]
theorem hget_succ (x : Option ABlk) (H : AHeap) (i : Nat) : hget (x :: H) (i + 1) = hget H i := by simp [hget]
theorem lenV_arr (i n : Nat) : lenV false (.arr i n) = some (.int .i64 n) := _root_.id rfl
theorem lenV_slc (a : AAd) (n : Nat) : lenV false (.slc a n) = some (.int .i64 n) := _root_.id rfl
theorem lenV_nils : lenV false .nils = some (.int .i64 0) := _root_.id rfl
theorem lenV_str (s : ByteArray) : lenV true (.str s) = some (.int .i64 s.size) := _root_.id rfl
theorem extract_tup (i : Nat) (l : List AVal) : extractA i (.tup l) = l[i]? := _root_.id rfl
theorem pick_bool (b : Bool) (x y : AVal) : pickA (.bool b) x y = some (if b then x else y) := _root_.id rfl
theorem un_not (b : Bool) : unA .not (.bool b) = some (.bool (!b)) := _root_.id rfl
theorem un_neg (k : IntKind) (n : Int) : unA .neg (.int k n) = some (.int k (k.wrap (0 - n))) := _root_.id rfl
theorem conv_int (k k' : IntKind) (n : Int) : convA k (.int k' n) = some (.int k (k.wrap n)) := _root_.id rfl
section
variable (c : Cls) (k : IntKind) (a b : Int)
theorem bin_add : binA .add c (.int k a) (.int k b) = some (.int k (k.wrap (a + b))) := by simp [binA, arithI]
theorem bin_sub : binA .sub c (.int k a) (.int k b) = some (.int k (k.wrap (a - b))) := by simp [binA, arithI]
theorem bin_mul : binA .mul c (.int k a) (.int k b) = some (.int k (k.wrap (a * b))) := by simp [binA, arithI]
theorem bin_quo (h : b ≠ 0) : binA .quo c (.int k a) (.int k b) = some (.int k (k.wrap (a.tdiv b))) := by simp [binA, arithI, h]
theorem bin_rem (h : b ≠ 0) : binA .rem c (.int k a) (.int k b) = some (.int k (a.tmod b)) := by simp [binA, arithI, h]
theorem bin_eqlI : binA .eql c (.int k a) (.int k b) = some (.bool (decide (a = b))) := by simp [binA, arithI]; rfl
theorem bin_neqI : binA .neq c (.int k a) (.int k b) = some (.bool (!decide (a = b))) := by simp [binA, arithI, bne]; rfl
theorem bin_lss : binA .lss c (.int k a) (.int k b) = some (.bool (decide (a < b))) := by simp [binA, arithI]
theorem bin_leq : binA .leq c (.int k a) (.int k b) = some (.bool (decide (a ≤ b))) := by simp [binA, arithI]
theorem bin_gtr : binA .gtr c (.int k a) (.int k b) = some (.bool (decide (b < a))) := by simp [binA, arithI]
theorem bin_geq : binA .geq c (.int k a) (.int k b) = some (.bool (decide (b ≤ a))) := by simp [binA, arithI]
theorem bin_and : binA .and c (.int k a) (.int k b) = some (.int k (k.wrap ((BitVec.ofInt k.bits a &&& BitVec.ofInt k.bits b).toNat))) := by simp [binA, arithI]
theorem bin_or : binA .or c (.int k a) (.int k b) = some (.int k (k.wrap ((BitVec.ofInt k.bits a ||| BitVec.ofInt k.bits b).toNat))) := by simp [binA, arithI]
theorem bin_shl (k' : IntKind) (h : ¬ b < 0) : binA .shl c (.int k a) (.int k' b) = some (.int k (k.wrap (a * 2 ^ (min b.toNat k.bits)))) := by simp [binA, shiftI, h]
theorem bin_shr (k' : IntKind) (h : ¬ b < 0) : binA .shr c (.int k a) (.int k' b) = some (.int k (a.fdiv (2 ^ (min b.toNat k.bits)))) := by simp [binA, shiftI, h]
end
theorem bin_eqlO (c : Cls) (x y : AVal) (b : Bool) (h : eqI c x y = some b) : binA .eql c x y = some (.bool b) := by
  cases x <;> cases y <;> first | (simp [eqI] at h; done) | (simp only [binA]; rw [h]; rfl)
theorem bin_neqO (c : Cls) (x y : AVal) (b : Bool) (h : eqI c x y = some b) : binA .neq c x y = some (.bool (!b)) := by
  cases x <;> cases y <;> first | (simp [eqI] at h; done) | (simp only [binA]; rw [h]; rfl)
section
theorem eq_pn (a : AAd) : binA .eql .pointer (.ptr a) .nilp = some (.bool false) := _root_.id rfl
theorem eq_nn : binA .eql .pointer .nilp .nilp = some (.bool true) := _root_.id rfl
theorem ne_pn (a : AAd) : binA .neq .pointer (.ptr a) .nilp = some (.bool true) := _root_.id rfl
theorem ne_nn : binA .neq .pointer .nilp .nilp = some (.bool false) := _root_.id rfl
theorem eq_an (i n : Nat) : binA .eql .slice (.arr i n) .nils = some (.bool false) := _root_.id rfl
theorem eq_sn (a : AAd) (n : Nat) : binA .eql .slice (.slc a n) .nils = some (.bool false) := _root_.id rfl
theorem eq_sl : binA .eql .slice .nils .nils = some (.bool true) := _root_.id rfl
theorem ne_an (i n : Nat) : binA .neq .slice (.arr i n) .nils = some (.bool true) := _root_.id rfl
theorem ne_sn (a : AAd) (n : Nat) : binA .neq .slice (.slc a n) .nils = some (.bool true) := _root_.id rfl
theorem ne_sl : binA .neq .slice .nils .nils = some (.bool false) := _root_.id rfl
theorem eq_bb (a b : Bool) : binA .eql .bool (.bool a) (.bool b) = some (.bool (a == b)) := _root_.id rfl
theorem ne_bb (a b : Bool) : binA .neq .bool (.bool a) (.bool b) = some (.bool (!(a == b))) := _root_.id rfl
theorem eq_ss (c : Cls) (a b : ByteArray) : binA .eql c (.str a) (.str b) = some (.bool (a.toList == b.toList)) := _root_.id rfl
theorem ne_ss (c : Cls) (a b : ByteArray) : binA .neq c (.str a) (.str b) = some (.bool (!(a.toList == b.toList))) := _root_.id rfl
end
section
variable {x : AVal}
theorem idx_arr (e i n : Nat) (k : IntKind) (j : Int) (h0 : 0 ≤ j) (h1 : j < n) : iaddrO e (.arr i n) (.int k j) = some (.ptr (.loc i (j.toNat * e))) := by simp [iaddrO, h0, h1]
theorem idx_slc (e : Nat) (a : AAd) (n : Nat) (k : IntKind) (j : Int) (h0 : 0 ≤ j) (h1 : j < n) : iaddrO e (.slc a n) (.int k j) = some (.ptr (addA a (j.toNat * e))) := by simp [iaddrO, h0, h1]
theorem idx_array (l e : Nat) (a : AAd) (k : IntKind) (j : Int) (h0 : 0 ≤ j) (h1 : j < l) : iaddrArr l e (.ptr a) (.int k j) = some (.ptr (addA a (j.toNat * e))) := by simp [iaddrArr, h0, h1]
end
theorem field_one (o : Nat) (l : List AVal) : fieldA o none (.agg l) = l[o]? := _root_.id rfl
theorem ldn_zero (C : Ctx) (H : AHeap) (a : AAd) (j : Nat) : ldn C H a j 0 = some [] := _root_.id rfl
def consO (o : Option AVal) (l : Option (List AVal)) : Option (List AVal) := match o with
  | some v => match l with
    | some l => some (v :: l)
    | none => none
  | none => none
theorem ldn_succ (C : Ctx) (H : AHeap) (a : AAd) (j n : Nat) : ldn C H a j (n + 1) = consO (ldc C H a j) (ldn C H a (j + 1) n) := _root_.id rfl
theorem consO_some (v : AVal) (l : List AVal) : consO (some v) (some l) = some (v :: l) := _root_.id rfl

attribute [simp ↓] stepK_eq nextK_eq treeK_eq x_skip x_ops x_draw t_done t_ops t_both t_top x_seq x_cond x_block x_loop x_exit x_scope x_label x_goto x_ret s_normal s_exit s_ret s_goto b_normal b_same b_other b_ret b_goto l_normal l_exit l_ret l_goto
  FWops_nil FWops_guard thenK_some thenK_none guardK_true guardK_false guardK_tup condK_true condK_false o_mov o_pick o_alloc o_box o_build o_bslice o_load o_store o_nilchk o_bin o_un o_conv o_mkfn o_sliceS o_slice o_faddr o_field o_iaddr o_iaddrA o_indexS o_extract o_len o_append o_clear
attribute [simp] movA_eq withH_some put_same put_ne putO_some putO_none evalO_tmp evalO_val ite_bool
  nilchk_ptr nilchk_fn faddr_ptr add_loc add_base load_one load_agg ldc_loc ldc_base hget_nil hget_zero hget_succ lenV_arr lenV_slc lenV_nils lenV_str extract_tup pick_bool un_not un_neg conv_int
  bin_add bin_sub bin_mul bin_quo bin_rem bin_eqlI bin_neqI bin_lss bin_leq bin_gtr bin_geq bin_and bin_or bin_shl bin_shr eq_pn eq_nn ne_pn ne_nn eq_an eq_sn eq_sl ne_an ne_sn ne_sl eq_bb ne_bb eq_ss ne_ss
  idx_arr idx_slc idx_array field_one ldn_zero ldn_succ consO_some

end Go.F
