/- The code. -/
import Derived.Test.YtlghjfmehfochaaDoorFC
set_option linter.all false
namespace Go.F
open Go.RowKit

/-- the orders of a region that differ -/
inductive OTree where
  | done
  | ops (l : List FOper) (next : OTree)
  | both (a b : OTree)
  | top
  | stuck

/-- the same, each operation by its number and what stands ahead of it; what is new has a kept place -/
inductive RTree where
  | done
  | op (j : Nat) (anc : List Nat) (o : FOper) (next : RTree)
  | both (a b : RTree)
  | top
  | stuck

def OTree.linear : OTree → Bool
  | .done => true
  | .ops _ r => r.linear
  | _ => false

inductive FC where
  | skip
  | ops (l : List FOper)
  | draw (T : OTree)
  | drawR (n : Nat) (T : RTree)
  | seq (a b : FC)
  | cond (c : FOpd) (a b : FC)
  | block (id : Nat) (a : FC)
  | loop (a : FC)
  | exit (id : Nat)
  | scope (a : FC)
  | label (l : Nat)
  | goto (l : Nat)
  | ret

/-- a guard by its slot -/
def compGuard (ops : List Oper) : Option (Nat × Bool) → Option (Option (Nat × Bool))
  | none => some none
  | some (j, b) => match ops[j]? with
    | some o => o.dst.map fun d => some (d, b)
    | none => none

def compOper (P : Program) (n : Nat) (ops : List Oper) (o : Oper) : Option FOper :=
  match compGuard ops o.guard, compOp P o.op with
  | some g, some f => if o.dst.all (fun d => d < n) then some ⟨o.dst, g, f⟩ else none
  | _, _ => none

def optAll {α β : Type} (f : α → Option β) : List α → Option (List β)
  | [] => some []
  | a :: l => match f a, optAll f l with
    | some b, some r => some (b :: r)
    | _, _ => none

/-- effect on memory: nothing; reads; makes blocks; anything -/
inductive Eff where
  | pure | reads | makes | acts
  deriving DecidableEq

def FOp.eff : FOp → Eff
  | .load _ _ => .reads
  | .slice _ _ _ _ _ _ => .reads
  | .alloc _ _ => .acts
  | .box _ _ => .acts
  | .bslice _ _ _ _ _ => .acts
  | .store _ _ _ => .acts
  | .append _ _ _ _ _ => .acts
  | .clear _ _ _ => .acts
  | .s2b _ _ _ => .acts
  | .b2s _ => .reads
  | .mkslice _ _ _ _ _ => .acts
  | .call _ _ => .acts
  | _ => .pure

def FOpd.slots : FOpd → List Nat
  | .tmp i => [i]
  | .val _ => []

def FOp.slots : FOp → List Nat
  | .mov x => x.slots
  | .pick c a b => c.slots ++ a.slots ++ b.slots
  | .alloc _ _ => []
  | .box _ x => x.slots
  | .build _ ps => ps.flatMap fun p => p.2.2.slots
  | .bslice _ _ _ _ ps => ps.flatMap fun p => p.2.2.slots
  | .load _ x => x.slots
  | .store _ a x => a.slots ++ x.slots
  | .nilchk x => x.slots
  | .bin _ _ x y => x.slots ++ y.slots
  | .un _ x => x.slots
  | .conv _ x => x.slots
  | .mkfn _ caps => caps.flatMap FOpd.slots
  | .mkmth _ caps => caps.flatMap FOpd.slots
  | .s2b _ _ x => x.slots
  | .b2s x => x.slots
  | .mkslice _ _ _ x y => x.slots ++ y.slots
  | .sliceS x lo hi => x.slots ++ (lo.map FOpd.slots).getD [] ++ (hi.map FOpd.slots).getD []
  | .slice _ _ x lo hi mx => x.slots ++ (lo.map FOpd.slots).getD [] ++ (hi.map FOpd.slots).getD [] ++ (mx.map FOpd.slots).getD []
  | .faddr _ x => x.slots
  | .field _ _ x => x.slots
  | .iaddr _ x i => x.slots ++ i.slots
  | .iaddrA _ _ x i => x.slots ++ i.slots
  | .indexS x i => x.slots ++ i.slots
  | .extract x _ => x.slots
  | .len _ x => x.slots
  | .append _ _ _ s x => s.slots ++ x.slots
  | .clear _ _ x => x.slots
  | .call f args => f.slots ++ args.flatMap FOpd.slots

def FOper.slots (o : FOper) : List Nat := (match o.guard with | some (g, _) => [g] | none => []) ++ o.op.slots

end Go.F
