/- Heaps that are not known whole: what is new stands behind. -/
import Derived.Test.YtlghjfmehfochaaDoorFO
set_option linter.all false
namespace Go.F
open Go.RowKit

theorem hget_app_len (H L : AHeap) : hget (H ++ L) H.length = hget L 0 := by simp [hget, List.getElem?_append_right]
theorem hget_app_add (H L : AHeap) (k : Nat) : hget (H ++ L) (H.length + k) = hget L k := by simp [hget, List.getElem?_append_right]
theorem set_app_len (H L : AHeap) (x : Option ABlk) : (H ++ L).set H.length x = H ++ L.set 0 x := by simp
theorem set_app_add (H L : AHeap) (k : Nat) (x : Option ABlk) : (H ++ L).set (H.length + k) x = H ++ L.set k x := by simp
attribute [simp] hget_app_len hget_app_add set_app_len set_app_add

theorem hget_app_old {H L : AHeap} {i : Nat} {b : ABlk} (h : hget H i = some b) : hget (H ++ L) i = some b := by
  rw [hget_app_lt (hget_lt h)]; exact h

/-- THE END: what is new is forgotten. -/
theorem retQ_drop {X : Fx} {rs : List FRes} {Post : AVal → AHeap → Prop} {t : Fr} {H L : AHeap} (hn : X.n0 = H.length) (hk : ∀ i b, hget H i = some b → ltL H.length b.cells)
    (h : ∃ vs, resL X.C t (H ++ L) rs = some vs ∧ (tupV vs).lt H.length ∧ Post (tupV vs) H) : retQ X rs Post .ret t (H ++ L) := by
  obtain ⟨vs, h1, h2, h3⟩ := h
  refine ⟨vs, H, h1, ⟨by simp, by omega, fun _ => .inl rfl, fun i b hb => ⟨b, hget_app_old hb, rfl, Nat.le_refl _, fun j x hx => .inr ⟨hx, fun _ => ltL_iff.1 (hk i b hb) x (List.mem_of_getElem? hx)⟩⟩⟩, fun _ => h2, h3⟩

/-- a loop that ends in its first round -/
theorem FW.loop_exit {X : Fx} {x : FC} {t : Fr} {H : AHeap} {Q : FQ} (h : FWx X x t H (loopQ (fun _ _ _ => False) 0 Q)) : FW X (.loop x) t H Q := by
  refine FW.loop (fun t' H' m => t' = t ∧ H' = H) 0 ⟨rfl, rfl⟩ ?_
  rintro t' H' m ⟨rfl, rfl⟩
  refine (FWx_sound h).mono fun e t'' H'' q => ?_
  cases e with
  | normal => obtain ⟨m', _, hf⟩ := q; exact hf.elim
  | _ => exact q

end Go.F
