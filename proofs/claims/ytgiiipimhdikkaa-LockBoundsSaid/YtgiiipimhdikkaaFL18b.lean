/-
  OWN WORK (an AI agent). Part L18b of a walk by simplification over abstract heaps.
-/
import Derived.Test.YtgiiipimhdikkaaFL18a
set_option linter.all false
namespace Go.Proofs.Ytgiiipimhdikkaa
open Go.F Go.RowKit

def tbl : Tbl := [(4, e4), (5, e5), (6, e6), (7, e7), (8, e8), (9, e9), (10, e10), (11, e11), (12, e12), (13, e13), (14, e14), (15, e15), (16, e16), (17, e17), (18, e18), (19, e19), (20, e20), (21, e21), (22, e22), (23, e23), (24, e24)]

theorem tbl_ok : ∀ p ∈ tbl, Valid Try.prog p.1 p.2 :=
  List.forall_mem_cons.2 ⟨v4, List.forall_mem_cons.2 ⟨v5, List.forall_mem_cons.2 ⟨v6, List.forall_mem_cons.2 ⟨v7, List.forall_mem_cons.2 ⟨v8, List.forall_mem_cons.2 ⟨v9, List.forall_mem_cons.2 ⟨v10, List.forall_mem_cons.2 ⟨v11, List.forall_mem_cons.2 ⟨v12, List.forall_mem_cons.2 ⟨v13, List.forall_mem_cons.2 ⟨v14, List.forall_mem_cons.2 ⟨v15, List.forall_mem_cons.2 ⟨v16, List.forall_mem_cons.2 ⟨v17, List.forall_mem_cons.2 ⟨v18, List.forall_mem_cons.2 ⟨v19, List.forall_mem_cons.2 ⟨v20, List.forall_mem_cons.2 ⟨v21, List.forall_mem_cons.2 ⟨v22, List.forall_mem_cons.2 ⟨v23, List.forall_mem_cons.2 ⟨v24, fun _ h => absurd h List.not_mem_nil⟩⟩⟩⟩⟩⟩⟩⟩⟩⟩⟩⟩⟩⟩⟩⟩⟩⟩⟩⟩⟩

theorem live_run (C : Ctx) : (execCall C tbl 40 4 [] []).map (·.1) = some (.bool true) := by kernel_rfl

theorem live_calls (C : Ctx) (hP : C.P = Try.prog) : FCalls C 4 [] [] fun v _ => v = .bool true := by
  have h := live_run C
  cases he : execCall C tbl 40 4 [] [] with
  | none => rw [he] at h; cases h
  | some p =>
    rw [he] at h
    simp only [Option.map_some, Option.some.injEq] at h
    exact (execCall_sound (T := tbl) (hP ▸ tbl_ok) 40 4 [] [] p.1 p.2 he).mono fun v H ⟨e, _⟩ => e.trans h

end Go.Proofs.Ytgiiipimhdikkaa
