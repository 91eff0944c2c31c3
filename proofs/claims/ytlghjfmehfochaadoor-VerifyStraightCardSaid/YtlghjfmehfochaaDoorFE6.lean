/- Each operation does what the language says: append, clear. -/
import Derived.Test.YtlghjfmehfochaaDoorFE5
set_option linter.all false
namespace Go.F
open Go.RowKit

section
variable {P : Program} (w : World) {t u ty e : TypeId} {i : TypeInfo} {z : Value} {du : TypeDesc} (ht : P.underlying t = some (.slice e)) (hu : P.underlying u = some du) (hdu : ∀ k, du ≠ .int k) (hi : P.info? e = some i) (hz : i.zero = some z)
  {x : Value} {m : Nat} {news : List Value} (hlen : ∀ w', (Builtin.lenOf x).run P w' = .ok m w') (hnews : ∀ w', w'.heap = w.heap → (Builtin.firstCells i.size m x).run P w' = .ok news.toArray w')
include ht hu hdu hi hz hlen hnews

omit hz in
theorem run_app_nil0 (hm : m = 0) (hn : news = []) : (Builtin.append_ #[t, u] ty #[.slice none 0 0, x]).run P w = .ok (.slice none 0 0) w := by
  subst hm; subst hn
  have h1 := hnews w rfl
  simp [Builtin.append_, run_under ht, run_under hu, sizeOf, typeInfo, hi, hlen, h1, Result.andThen]

theorem run_app_nil (hm : 0 < m) (hb : m * i.bytes ≤ 140737488355328) (h63 : m ≤ 9223372036854775807) :
    (Builtin.append_ #[t, u] ty #[.slice none 0 0, x]).run P w =
      .ok (.slice (some ⟨w.heap.size, 0, none⟩) m (grownCap w m 0 e)) (w.drew.alloc (.cells (news.toArray ++ Builtin.zeroCells z.cells (grownCap w m 0 e - m)) e)) := by
  have h1 := hnews w.drew rfl
  have hn : m ≠ 0 := by omega
  have h63' : ¬ (9223372036854775807 < (m : Int)) := by omega
  have h48' : ¬ (281474976710656 < Builtin.nextslicecap m 0 * i.bytes) := by rw [nextslicecap_zero hm]; omega
  simp [Builtin.append_, run_under ht, run_under hu, sizeOf, typeInfo, zeroValue, hi, hz, hlen, hn, h63', h48', Question.forced, run_firstCells_none, h1, newRow, grownCap, Result.andThen]

omit hz in
theorem run_app_room {g n cap : Nat} {cur : Array Value} {fz : Nat × Nat} (hg : w.heap[g]? = some (.cells cur e fz)) (hz' : FzOK fz cur.size) (h1 : ∀ v ∈ news, v.oneCell' = true) (hroom : n + m ≤ cap) (hfit : n * i.size + news.length ≤ cur.size) :
    (Builtin.append_ #[t, u] ty #[.slice (some ⟨g, 0, none⟩) n cap, x]).run P w =
      .ok (.slice (some ⟨g, 0, none⟩) (n + m) cap) (w.setRow g (cur.toList.take (n * i.size) ++ news ++ cur.toList.drop (n * i.size + news.length)).toArray) := by
  have hnw := hnews w rfl
  have hst := run_storeCells_fz P g (n * i.size) e fz news 0 cur w hg hz' (by simpa using hfit) h1
  simp only [Nat.add_zero] at hst
  simp [Builtin.append_, run_under ht, run_under hu, sizeOf, typeInfo, hi, hlen, hroom, hnw, addr_add_loc, hst, Result.andThen]

theorem run_app_grow {g n cap : Nat} {olds : List Value} (hlo : olds.length = n * i.size) (holds : ∀ j v, olds[j]? = some v → w.cell? ((⟨g, 0, none⟩ : Addr).add j) = some v)
    (hg : cap < n + m) (h63 : n + m ≤ 9223372036854775807) (hb : (n + m) * i.bytes ≤ 140737488355328) :
    (Builtin.append_ #[t, u] ty #[.slice (some ⟨g, 0, none⟩) n cap, x]).run P w =
      .ok (.slice (some ⟨w.heap.size, 0, none⟩) (n + m) (grownCap w (n + m) cap e))
        (w.drew.alloc (.cells (olds.toArray ++ news.toArray ++ Builtin.zeroCells z.cells (grownCap w (n + m) cap e - (n + m))) e)) := by
  have hnw := hnews w.drew rfl
  have hn : ¬ (n + m ≤ cap) := by omega
  have h63' : ¬ (9223372036854775807 < ((n : Int) + (m : Int))) := by omega
  have h48' : ¬ (281474976710656 < Builtin.nextslicecap (n + m) cap * i.bytes) := by have := growslice_fits hg hb; omega
  have hfo := run_firstCells_some (P := P) w.drew i.size n ⟨g, 0, none⟩ n cap olds hlo (by simpa using holds)
  simp [Builtin.append_, run_under ht, run_under hu, sizeOf, typeInfo, zeroValue, hi, hz, hlen, hn, h63', h48', Question.forced, hnw, hfo, newRow, grownCap, Result.andThen]
  congr 2
  apply Array.ext'
  simp [List.append_assoc]
end

theorem srcCells_sound {C : Ctx} {σ : Sg} {H : AHeap} {w : World} (h : Rep C σ H w) {esz : Nat} {x : AVal} {m : Nat} {l : List AVal} (hs : srcCells C H esz x = some (m, l)) {v : Value} (hx : relV σ x v) :
    ∃ vs, relL σ l vs ∧ (∀ w', (Builtin.lenOf v).run C.P w' = .ok m w') ∧ (∀ w', w'.heap = w.heap → (Builtin.firstCells esz m v).run C.P w' = .ok vs.toArray w') := by
  have cellw : ∀ {w' : World} {ad : Addr}, w'.heap = w.heap → w'.cell? ad = w.cell? ad := fun {w' ad} e => by simp [World.cell?, e]
  cases x <;> simp only [srcCells, reduceCtorEq, Option.some.injEq, Prod.mk.injEq, Option.map_eq_some_iff] at hs
  · obtain ⟨rfl, rfl⟩ := hs
    rename_i s
    have e : v = .string s := by simpa only [relV] using hx
    subst e
    refine ⟨(s.data.map fun b => Value.int .u8 b.toNat).toList, ?_, fun w' => by simp [Builtin.lenOf], fun w' _ => ?_⟩
    · unfold bytesL
      rw [Array.toList_map]
      induction s.data.toList with
      | nil => simp [relL]
      | cons b r ih => simp only [List.map, relL]; exact ⟨_, _, rfl, by simp only [relV], ih⟩
    · simp [Builtin.firstCells]
      apply Array.ext'
      simp
  · obtain ⟨l', hl, rfl, rfl⟩ := hs
    rename_i id n
    obtain ⟨s, cap, hsg, rfl, _, _⟩ : ∃ (s : SI) (cap : Nat), sg σ id = some s ∧ v = .slice (some ⟨s.blk, 0, none⟩) n cap ∧ n ≤ cap ∧ cap * s.esz = s.csz := by simpa only [relV] using hx
    obtain ⟨vs, hlen, hcell, hrel⟩ := ldn_sound h (c := ⟨s.blk, 0, none⟩) (by simp [conc, hsg]) hl
    refine ⟨vs, hrel, fun w' => by simp [Builtin.lenOf], fun w' e => ?_⟩
    exact run_firstCells_some (P := C.P) w' esz _ _ _ _ vs hlen (fun j v hv => by rw [cellw e]; have := hcell j v hv; rwa [Nat.zero_add] at this)
  · obtain ⟨l', hl, rfl, rfl⟩ := hs
    rename_i p m
    obtain ⟨c, c', cap, hc, rfl, _, hcc⟩ : ∃ c c' cap, conc σ p = some c ∧ v = .slice (some c') m cap ∧ m ≤ cap ∧ (0 < m → c' = c) := by simpa only [relV] using hx
    obtain ⟨vs, hlen, hcell, hrel⟩ := ldn_sound h hc hl
    refine ⟨vs, hrel, fun w' => by simp [Builtin.lenOf], fun w' e => ?_⟩
    refine run_firstCells_some (P := C.P) w' esz _ _ _ _ vs hlen (fun j v hv => ?_)
    rw [cellw e]
    have hj := (List.getElem?_eq_some_iff.1 hv).1
    have hm : 0 < m := by
      rcases Nat.eq_zero_or_pos m with rfl | hp
      · rw [hlen, Nat.zero_mul] at hj; omega
      · exact hp
    rw [hcc hm]
    have := hcell j v hv; rwa [Nat.zero_add] at this
  · obtain ⟨rfl, rfl⟩ := hs
    have e : v = .slice none 0 0 := by simpa only [relV] using hx
    subst e
    exact ⟨[], by simp [relL], fun w' => by simp [Builtin.lenOf], fun w' _ => by simp [Builtin.firstCells]⟩


theorem Rep.drew {C : Ctx} {σ : Sg} {H : AHeap} {w : World} (h : Rep C σ H w) : Rep C σ H w.drew := h.heap rfl rfl rfl rfl

theorem zeros_size (z : Array Value) (n : Nat) : (Builtin.zeroCells z n).size = n * z.size := by simp [Builtin.zeroCells]

theorem step_append {C : Ctx} {σ : Sg} {H : AHeap} {w : World} (h : Rep C σ H w) {t u ty e : TypeId} {i : TypeInfo} {z : Value} {du : TypeDesc} (ht : C.P.underlying t = some (.slice e)) (hu : C.P.underlying u = some du) (hdu : ∀ k, du ≠ .int k) (hi : C.P.info? e = some i) (hz : i.zero = some z)
    (hzs : z.cells.size = i.size) (h0 : 0 < i.size) (hb1 : 0 < i.bytes) {pl : Nat} (hp : Free σ H pl) {s x v : AVal} {H' : AHeap} {sv xv : Value} (hs : relV σ s sv) (hx : relV σ x xv)
    (hv : appendA C pl H e i.size i.bytes s x = some (v, H')) :
    ∃ cv w' σ', (Builtin.append_ #[t, u] ty #[sv, xv]).run C.P w = .ok cv w' ∧ Grow pl σ σ' ∧ relV σ' v cv ∧ Rep C σ' H' w' := by
  unfold appendA at hv
  split at hv
  · cases hv
  rename_i m news hsrc
  obtain ⟨vs, hrel, hlen, hnews⟩ := srcCells_sound h hsrc hx
  split at hv
  rotate_left
  · cases hv
  rename_i hcond
  obtain ⟨hl, hsc⟩ := hcond
  have hvl : vs.length = m * i.size := by rw [hrel.length, hl]
  have hone := scalar_all hrel hsc
  have bb : ∀ {k : Nat}, k * i.bytes ≤ 140737488355328 → k ≤ 140737488355328 := fun {k} hk => Nat.le_trans (Nat.le_mul_of_pos_right k hb1) hk
  cases s <;> simp only [reduceCtorEq] at hv
  · -- arr
    rename_i id n
    obtain ⟨sg, cap, hsg, rfl, hncap, hcap⟩ : ∃ (s : SI) (cap : Nat), Go.F.sg σ id = some s ∧ sv = .slice (some ⟨s.blk, 0, none⟩) n cap ∧ n ≤ cap ∧ cap * s.esz = s.csz := by simpa only [relV] using hs
    split at hv
    rotate_left
    · cases hv
    rename_i b hb
    split at hv
    rotate_left
    · cases hv
    rename_i hc2
    obtain ⟨hty, hkn, hby⟩ := hc2
    obtain ⟨s', cur, hs', hN, hlt, ⟨fz, hw, hfz⟩, hcs, hlc, hrc, htt⟩ := h.live hb
    rw [hsg] at hs'; cases hs'
    have hes : i.size = sg.esz := by rw [hty, hi] at htt; simpa using htt
    rw [hty] at hw
    have hcapc : cap * i.size = cur.size := by rw [hes, hcap, hcs]
    have h63 : n + m ≤ 9223372036854775807 := by have := bb hby; omega
    by_cases hroom : n + m ≤ cap
    · -- there is room
      have hfit : n * i.size + vs.length ≤ cur.size := by rw [hvl, ← hcapc, ← Nat.add_mul]; exact Nat.mul_le_mul_right _ hroom
      have hr := run_app_room (ty := ty) w ht hu hdu hi hlen hnews hw hfz hone hroom hfit
      split at hv
      · -- the same block
        rename_i hin
        simp only [Option.some.injEq, Prod.mk.injEq] at hv
        obtain ⟨rfl, rfl⟩ := hv
        have hsp := rel_splice hrc hrel (off := n * i.size) (by rw [hl, ← Nat.add_mul]; exact hin) (by simpa using hlc)
        have hrep := h.setRow hb hsg (cells := setL b.cells (n * i.size) news) (c := (cur.toList.take (n * i.size) ++ vs ++ cur.toList.drop (n * i.size + vs.length)).toArray)
          (by simp only [List.size_toArray, List.length_append, List.length_take, List.length_drop, Array.length_toList]; omega)
          (by rw [setL_length]; simp only [List.size_toArray, List.length_append, List.length_take, List.length_drop, Array.length_toList]; omega)
          (by simpa only [List.toList_toArray] using hsp)
        exact ⟨_, _, σ, hr, .inl rfl, by simp only [relV]; exact ⟨sg, cap, hsg, rfl, hroom, hcap⟩, hrep⟩
      · -- a new number
        rename_i hin
        simp only [Option.some.injEq, Prod.mk.injEq] at hv
        obtain ⟨rfl, rfl⟩ := hv
        have hnewlen : (b.cells.take (n * i.size) ++ news).length = (n + m) * i.size := by
          rw [List.length_append, List.length_take, hl, Nat.min_eq_left hkn, Nat.add_mul]
        have hrep := h.setRow hb hsg (cells := b.cells.take (n * i.size) ++ news) (c := (cur.toList.take (n * i.size) ++ vs ++ cur.toList.drop (n * i.size + vs.length)).toArray)
          (by simp only [List.size_toArray, List.length_append, List.length_take, List.length_drop, Array.length_toList]; omega)
          (by rw [hnewlen, Nat.add_mul, ← hvl]; simp only [List.size_toArray, List.length_append, List.length_take, List.length_drop, Array.length_toList]; omega)
          (by
            rw [hnewlen]
            have h1 := (hrc.take (n * i.size)).append hrel
            have e1 : (cur.toList.take b.cells.length).take (n * i.size) = cur.toList.take (n * i.size) := by rw [List.take_take, Nat.min_eq_left hkn]
            rw [e1] at h1
            have e2 : (cur.toList.take (n * i.size) ++ vs ++ cur.toList.drop (n * i.size + vs.length)).take ((n + m) * i.size) = cur.toList.take (n * i.size) ++ vs := by
              rw [List.take_append_of_le_length, List.take_of_length_le]
              · rw [List.length_append, List.length_take, hvl, Nat.add_mul]; omega
              · rw [List.length_append, List.length_take, Array.length_toList, hvl, Nat.add_mul]; omega
            rw [e2]
            exact h1)
        have hpne : pl ≠ id := fun e => by subst e; rw [hp.hg] at hb; cases hb
        have hp1 : Free σ (H.set id (some ⟨b.cells.take (n * i.size) ++ news, b.ty⟩)) pl := ⟨by rw [List.length_set]; exact hp.le, hp.sg, by rw [hget_set_ne hpne]; exact hp.hg⟩
        have hrep2 := hrep.rename hp1 (id := id) (b := ⟨b.cells.take (n * i.size) ++ news, b.ty⟩) (hget_set_same (hget_lt hb)) hsg
        refine ⟨_, _, setAt σ pl sg, hr, .inr ⟨_, rfl⟩, ?_, ?_⟩
        · simp only [relV]
          exact ⟨sg, cap, by rw [sg_setAt (by rw [h.len]; exact hp.le), if_pos rfl], rfl, hroom, hcap⟩
        · have e : (H.set id (some ⟨b.cells.take (n * i.size) ++ news, b.ty⟩)).set id none = H.set id none := by simp
          rw [e, hty] at hrep2
          exact hrep2
    · -- it grows
      have hnin : ¬ ((n + m) * i.size ≤ b.cells.length) := by
        intro hh
        have h1 : (n + m) * i.size ≤ cap * i.size := by omega
        exact hroom (Nat.le_of_mul_le_mul_right h1 h0)
      rw [if_neg hnin] at hv
      simp only [Option.some.injEq, Prod.mk.injEq] at hv
      obtain ⟨rfl, rfl⟩ := hv
      have hold := hrc.take (n * i.size)
      rw [List.take_take, Nat.min_eq_left hkn] at hold
      have holdlen : (cur.toList.take (n * i.size)).length = n * i.size := by
        rw [List.length_take, Array.length_toList]; omega
      have hr := run_app_grow (ty := ty) w ht hu hdu hi hz hlen hnews (g := sg.blk) (n := n) (cap := cap) (olds := cur.toList.take (n * i.size)) holdlen (by
        intro j v hv
        rw [addr_add_loc]
        rw [List.getElem?_take] at hv
        split at hv
        · simp only [World.cell?, hw]
          simpa using hv
        · cases hv) (by omega) h63 hby
      have hrep1 := (h.kill id).drew
      have hcs2 : ((cur.toList.take (n * i.size)).toArray ++ vs.toArray ++ Builtin.zeroCells z.cells (grownCap w (n + m) cap e - (n + m))).size = grownCap w (n + m) cap e * i.size := by
        have := grownCap_ge w (n + m) cap e
        simp only [Array.size_append, List.size_toArray, zeros_size, hzs, holdlen, hvl, ← Nat.add_mul]
        congr 1; omega
      have hrep2 := hrep1.alloc (hp.kill id) (cells := b.cells.take (n * i.size) ++ news) (c := (cur.toList.take (n * i.size)).toArray ++ vs.toArray ++ Builtin.zeroCells z.cells (grownCap w (n + m) cap e - (n + m))) (ty := e) (esz := i.size)
        (by simp [hi]) (by
          rw [List.length_append, List.length_take, hl, Nat.min_eq_left hkn]
          simp only [Array.size_append, List.size_toArray, holdlen, hvl]; omega) (by
          have h1 := hold.append hrel
          have e1 := h1.length
          rw [← e1]
          simp only [Array.toList_append]
          rw [List.take_left']
          · exact h1
          · rfl)
      refine ⟨_, _, _, hr, .inr ⟨_, rfl⟩, ?_, hrep2⟩
      simp only [relV]
      refine ⟨_, grownCap w (n + m) cap e, by rw [sg_setAt (by rw [h.len]; exact hp.le), if_pos rfl], by rfl, grownCap_ge w (n + m) cap e, hcs2.symm⟩
  · -- nil
    have e1 : sv = .slice none 0 0 := by simpa only [relV] using hs
    subst e1
    split at hv
    · rename_i hm
      simp only [Option.some.injEq, Prod.mk.injEq] at hv
      obtain ⟨rfl, rfl⟩ := hv
      have hn : vs = [] := List.eq_nil_of_length_eq_zero (by rw [hvl, hm, Nat.zero_mul])
      exact ⟨_, w, σ, run_app_nil0 w ht hu hdu hi hlen hnews hm hn, .inl rfl, by simp only [relV], h⟩
    · rename_i hm
      split at hv
      rotate_left
      · cases hv
      rename_i hby
      simp only [Option.some.injEq, Prod.mk.injEq] at hv
      obtain ⟨rfl, rfl⟩ := hv
      have hr := run_app_nil (ty := ty) w ht hu hdu hi hz hlen hnews (by omega) hby (by have := bb hby; omega)
      have hcs2 : (vs.toArray ++ Builtin.zeroCells z.cells (grownCap w m 0 e - m)).size = grownCap w m 0 e * i.size := by
        have := grownCap_ge w m 0 e
        simp only [Array.size_append, List.size_toArray, zeros_size, hzs, hvl, ← Nat.add_mul]
        congr 1; omega
      have hrep2 := h.drew.alloc hp (cells := news) (c := vs.toArray ++ Builtin.zeroCells z.cells (grownCap w m 0 e - m)) (ty := e) (esz := i.size) (by simp [hi])
        (by simp only [Array.size_append, List.size_toArray, hvl, hl]; omega) (by
          rw [← hrel.length]
          simp only [Array.toList_append]
          rw [List.take_left']
          · exact hrel
          · rfl)
      refine ⟨_, _, _, hr, .inr ⟨_, rfl⟩, ?_, hrep2⟩
      simp only [relV]
      exact ⟨_, grownCap w m 0 e, by rw [sg_setAt (by rw [h.len]; exact hp.le), if_pos rfl], by rfl, grownCap_ge w m 0 e, hcs2.symm⟩

end Go.F
