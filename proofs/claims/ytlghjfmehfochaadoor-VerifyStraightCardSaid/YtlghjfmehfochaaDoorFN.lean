/-
  OWN WORK (an AI agent). Part N of a walk by simplification over abstract heaps.
-/
import Derived.Test.YtlghjfmehfochaaDoorFM
set_option linter.all false
namespace Go.F
open Go.RowKit

/-- before anything is made: no block -/
theorem Rep.start (C : Ctx) : Rep C [] [] C.w0 :=
  ⟨rfl, by intro i b hb; simp [hget] at hb, by intro i j bi bj si sj hb; simp [hget] at hb, Below.refl _ _⟩

/-- a law's answer: a bool, and all that stood in the memory stands as before -/
theorem FCalls.answers {P : Program} {f : Nat} {args : List AVal} {w : World} {cargs : Array Value} {b : Bool}
    (h : FCalls ⟨P, w.heap.size, w, Nat.le_refl _⟩ f args [] (fun v _ => v = .bool b)) (ha : relL [] args cargs.toList) :
    Calls P f cargs w (fun e w' => e = .returned (.bool b) ∧ Below w.heap.size w w') :=
  (h.2 [] w cargs (Rep.start _) ha).mono fun e w' ⟨v, av, H', σ', he, hp, _, hv, hr⟩ => by
    subst hp
    simp only [relV] at hv
    exact ⟨by rw [he, hv], hr.below⟩

end Go.F
