/-
  OWN WORK (an AI agent). Part L21b of a walk by simplification over abstract heaps.
-/
import Derived.Test.YtfbkogaijopcgaaFL21a
set_option linter.all false
namespace Go.Proofs.Ytfbkogaijopcgaa
open Go.F Go.RowKit

def tbl : Tbl := [(5, e5), (6, e6), (7, e7), (9, e9), (13, e13), (15, e15), (16, e16), (17, e17), (18, e18), (19, e19), (20, e20), (21, e21), (22, e22), (23, e23), (24, e24)]

theorem tbl_ok : ∀ p ∈ tbl, Valid Try.prog p.1 p.2 :=
  List.forall_mem_cons.2 ⟨v5, List.forall_mem_cons.2 ⟨v6, List.forall_mem_cons.2 ⟨v7, List.forall_mem_cons.2 ⟨v9, List.forall_mem_cons.2 ⟨v13, List.forall_mem_cons.2 ⟨v15, List.forall_mem_cons.2 ⟨v16, List.forall_mem_cons.2 ⟨v17, List.forall_mem_cons.2 ⟨v18, List.forall_mem_cons.2 ⟨v19, List.forall_mem_cons.2 ⟨v20, List.forall_mem_cons.2 ⟨v21, List.forall_mem_cons.2 ⟨v22, List.forall_mem_cons.2 ⟨v23, List.forall_mem_cons.2 ⟨v24, fun _ h => absurd h List.not_mem_nil⟩⟩⟩⟩⟩⟩⟩⟩⟩⟩⟩⟩⟩⟩⟩

theorem live_run (C : Ctx) : (execCall C tbl 60 5 [] []).map (·.1) = some (.bool true) := by kernel_rfl

theorem live_calls (C : Ctx) (hP : C.P = Try.prog) : FCalls C 5 [] [] fun v _ => v = .bool true := by
  have h := live_run C
  cases he : execCall C tbl 60 5 [] [] with
  | none => rw [he] at h; cases h
  | some p =>
    rw [he] at h
    simp only [Option.map_some, Option.some.injEq] at h
    exact (execCall_sound (T := tbl) (hP ▸ tbl_ok) 60 5 [] [] p.1 p.2 he).mono fun v H ⟨e, _⟩ => e.trans h

end Go.Proofs.Ytfbkogaijopcgaa
