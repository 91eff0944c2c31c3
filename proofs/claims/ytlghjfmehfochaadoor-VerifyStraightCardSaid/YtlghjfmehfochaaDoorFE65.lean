/- Each operation does what the language says: texts and bytes, new slices, bound methods, structs compared. -/
import Derived.Test.YtlghjfmehfochaaDoorFE6
import Derived.Lib.ConvBytes
import Derived.Laws.BytesString
import Derived.Laws.MakeOwn
import Derived.Laws.StructEq
set_option linter.all false
namespace Go.F
open Go.RowKit

theorem relL_bytes (σ : Sg) (s : ByteArray) : relL σ (bytesL s) (s.data.map fun b => Value.int .u8 b.toNat).toList := by
  unfold bytesL
  rw [Array.toList_map]
  induction s.data.toList with
  | nil => simp [relL]
  | cons b r ih => simp only [List.map, relL]; exact ⟨_, _, rfl, by simp only [relV], ih⟩

theorem relL_ints {σ : Sg} : ∀ {l : List AVal} {ns : List Int} {vs : List Value}, intsOf l = some ns → relL σ l vs → vs = ns.map (Value.int .u8)
  | [], ns, vs, h, hr => by
    simp only [intsOf, Option.some.injEq] at h; subst h
    simp only [relL] at hr; subst hr; rfl
  | a :: l, ns, vs, h, hr => by
    cases a <;> first | (simp only [intsOf, reduceCtorEq] at h; done) | skip
    rename_i k n
    cases k <;> first | (simp only [intsOf, reduceCtorEq] at h; done) | skip
    simp only [intsOf, Option.map_eq_some_iff] at h
    obtain ⟨ns', h', rfl⟩ := h
    simp only [relL, relV] at hr
    obtain ⟨v, vs', rfl, rfl, hr'⟩ := hr
    rw [relL_ints h' hr', List.map_cons]

/-- the mark behind a row's cells -/
theorem Rep.freeze {C : Ctx} {σ : Sg} {H : AHeap} {w : World} (h : Rep C σ H w) {id : Nat} {b : ABlk} (hb : hget H id = some b) {s : SI} (hs : sg σ id = some s) {c : Array Value} {fz : Nat × Nat} (hw : w.heap[s.blk]? = some (.cells c b.ty fz)) (hfz : FzOK fz c.size) :
    Rep C σ H (w.freeze ⟨s.blk, c.size, none⟩ 1) := by
  obtain ⟨s', _, hs', hN, hlt, _⟩ := h.live hb
  rw [hs] at hs'; cases hs'
  have hold : ∀ k, k ≠ s.blk → (w.freeze ⟨s.blk, c.size, none⟩ 1).heap[k]? = w.heap[k]? := by
    intro k hk
    simp only [World.freeze, Nat.one_ne_zero, if_false, Array.getElem?_modify]
    rw [if_neg (fun e => hk e.symm)]
  have hnew : ∃ fz', (w.freeze ⟨s.blk, c.size, none⟩ 1).heap[s.blk]? = some (.cells c b.ty fz') ∧ FzOK fz' c.size := by
    obtain ⟨lo, hi⟩ := fz
    simp only [World.freeze, Nat.one_ne_zero, if_false, Array.getElem?_modify, if_true, hw, Option.map_some]
    refine ⟨_, rfl, ?_⟩
    by_cases e : (lo == hi) = true
    · simp only [e, if_true]; exact .inr (Nat.le_refl _)
    · simp only [e, Bool.false_eq_true, if_false]
      have e' : lo ≠ hi := by simpa using e
      rcases hfz with q | q
      · exact absurd q e'
      · exact .inr (by simp only at q ⊢; omega)
  refine ⟨h.len, ?_, h.inj, ?_⟩
  · intro i b' hb'
    obtain ⟨s2, c2, hs2, h2, h3, h4, h5, h6, h7⟩ := h.blk i b' hb'
    by_cases e : s2.blk = s.blk
    · have := h.inj i id b' b s2 s hb' hb hs2 hs e
      subst this
      rw [hs] at hs2; cases hs2
      rw [hb] at hb'; cases hb'
      obtain ⟨_, h3, _⟩ := h3
      rw [hw] at h3
      cases h3
      exact ⟨s, c, hs, hN, hnew, h4, h5, h6, h7⟩
    · exact ⟨s2, c2, hs2, h2, by rw [hold _ e]; exact h3, h4, h5, h6, h7⟩
  · have hz : (w.freeze ⟨s.blk, c.size, none⟩ 1).heap.size = w.heap.size := by simp [World.freeze]
    refine h.below.trans ⟨rfl, rfl, rfl, by rw [hz]; exact Nat.le_refl _, fun k hk => hold k (by omega)⟩

section
variable {C : Ctx} {σ : Sg} {pl : Nat} {H : AHeap} {w : World} (h : Rep C σ H w) {n : Nat} {t : Fr} {a : Act} (hF : relF σ n t a.tmps) (o : Oper)
include h hF

theorem step_mkmth {f : Nat} {first caps : Array Operand} (hca : caps = #[]) (ho : o.op = .makeFunc (.func f) first caps) :
    Outc C σ pl ((execOp a.eval o).run C.P w) (.mth f ((first.toList.map cO).map (evalO t))) H := by
  subst hca
  refine Outc.quiet h (cv := .func (.func f) (first.map a.eval) #[]) (by simp [execOp, ho, Instr.makeFunc, pure]) ?_
  simp only [relV]
  refine ⟨_, rfl, ?_⟩
  rw [List.map_map, Array.toList_map]
  simpa [Function.comp_def] using relL_map hF

theorem step_s2b (hp : Free σ H pl) {src dst e : TypeId} {u : TypeDesc} {x : Operand} {v : AVal} {H' : AHeap} (hs : C.P.underlying src = some u) (hd : C.P.underlying dst = some (.slice e)) (he : C.P.underlying e = some (.int .u8)) (hsz : sizeT C.P e = some 1)
    (hv : s2bA pl H e (src == dst) (evalO t (cO x)) = some (v, H')) (ho : o.op = .convert src dst x) : Outc C σ pl ((execOp a.eval o).run C.P w) v H' := by
  have hx := relO hF x
  generalize hg : evalO t (cO x) = g at *
  cases g <;> simp only [s2bA, reduceCtorEq, Option.some.injEq, Prod.mk.injEq] at hv
  rotate_left
  · rename_i id m
    split at hv
    rotate_left
    · cases hv
    rename_i hsame
    obtain ⟨hsame, hlive⟩ := hsame
    simp only [Option.some.injEq, Prod.mk.injEq] at hv
    obtain ⟨rfl, rfl⟩ := hv
    obtain ⟨b, hb⟩ := Option.isSome_iff_exists.1 hlive
    have hsd : src = dst := by simpa using hsame
    subst hsd
    have hx' := hx
    obtain ⟨sg, cap, hsg, ex, hle, hcap⟩ : ∃ (s : SI) (cap : Nat), Go.F.sg σ id = some s ∧ a.eval x = .slice (some ⟨s.blk, 0, none⟩) m cap ∧ m ≤ cap ∧ cap * s.esz = s.csz := by simpa only [relV] using hx'
    obtain ⟨s', c, hs', hN, hlt, ⟨fz, hw, hfz⟩, hcs, hlc, hrc, htt⟩ := h.live hb
    rw [hsg] at hs'; cases hs'
    have hshape : w.shape? sg.blk = some (b.ty, c.size) := by simp [World.shape?, hw]
    have hr : (convert src src (.slice (some ⟨sg.blk, 0, none⟩) m cap)).run C.P w = .ok (.slice (some ⟨sg.blk, 0, none⟩) m cap) (w.freeze ⟨sg.blk, c.size, none⟩ 1) := by
      simp [convert, run_under hd, run_under he, markStringish, hshape, Result.andThen]
    refine ⟨_, .slice (some ⟨sg.blk, 0, none⟩) m cap, _, σ, by simp [execOp, ho, ex, hr], .inl rfl, .inl rfl, by rw [ex] at hx; exact hx, h.freeze hb hsg hw hfz⟩
  rename_i s
  obtain ⟨rfl, rfl⟩ := hv
  have ex : a.eval x = .string s := by simpa only [relV] using hx
  have hr := Go.Lib.run_convert_string_bytes (P := C.P) w src dst e s hs hd he
  have hcap := grownCap_ge w s.size 0 e
  have hcs : (Go.Lib.bytesCells w e s).size = grownCap w s.size 0 e := by
    simp only [Go.Lib.bytesCells, Array.size_append, Array.size_map, Array.size_replicate]
    show s.size + _ = _
    omega
  have hlen : (bytesL s).length = s.size := by simp [bytesL]
  have hbel : Below C.N C.w0 (Go.Lib.bytesWorld w e s) := by
    have hb := h.below
    have hz := Go.Lib.bytesWorld_size w e s
    have hn := h.nle
    refine hb.trans ⟨?_, ?_, ?_, by omega, fun k hk => ?_⟩
    · simp only [Go.Lib.bytesWorld, World.freeze]; split <;> rfl
    · simp only [Go.Lib.bytesWorld, World.freeze]; split <;> rfl
    · simp only [Go.Lib.bytesWorld, World.freeze]; split <;> rfl
    · exact Go.Lib.bytesWorld_at_old w e s k (by omega)
  have hrep := h.allocZ hp hbel (fun k hk => Go.Lib.bytesWorld_at_old w e s k hk) (cells := bytesL s) (ty := e) hsz (by rw [hlen, hcs]; exact hcap)
    (by
      have hb : (s.data.map fun b => Value.int .u8 b.toNat).toList.length = s.size := by simp
      have : (Go.Lib.bytesCells w e s).toList.take (bytesL s).length = (s.data.map fun b => Value.int .u8 b.toNat).toList := by
        simp only [Go.Lib.bytesCells, Array.toList_append]
        rw [hlen, List.take_append_of_le_length (by rw [hb]; exact Nat.le_refl _), List.take_of_length_le (by rw [hb]; exact Nat.le_refl _)]
      rw [this]
      exact relL_bytes σ s) (Go.Lib.bytesWorld_at_new w e s) (.inr (Nat.le_refl _))
  refine ⟨_, .slice (some ⟨w.heap.size, 0, none⟩) s.size (grownCap w s.size 0 e), _, _, by simp [execOp, ho, ex, hr], .inl rfl, .inr ⟨_, rfl⟩, ?_, hrep⟩
  simp only [relV]
  exact ⟨⟨w.heap.size, (Go.Lib.bytesCells w e s).size, 1⟩, grownCap w s.size 0 e, by rw [Go.F.sg_setAt (by rw [h.len]; exact hp.le), if_pos rfl], rfl, hcap, by simp [hcs]⟩

theorem step_b2s {src dst e : TypeId} {x : Operand} {v : AVal} (hs : C.P.underlying src = some (.slice e)) (he : C.P.underlying e = some (.int .u8)) (hd : C.P.underlying dst = some .string)
    (hv : b2sA C H (evalO t (cO x)) = some v) (ho : o.op = .convert src dst x) : Outc C σ pl ((execOp a.eval o).run C.P w) v H := by
  have hx := relO hF x
  generalize hg : evalO t (cO x) = g at *
  unfold b2sA at hv
  split at hv
  · simp only [Option.some.injEq] at hv; subst hv
    have ex : a.eval x = .slice none 0 0 := by simpa only [relV] using hx
    refine Outc.quiet h (cv := .string .empty) ?_ (by simp only [relV])
    simp [execOp, ho, ex, run_convert_bytes_string (P := C.P) w src dst e none 0 0 hs he hd, Conv.bytesToString]
  · rename_i id m
    split at hv
    · rename_i l hl
      simp only [Option.map_eq_some_iff] at hv
      obtain ⟨ns, hns, rfl⟩ := hv
      obtain ⟨s, cap, hsg, ex, hle, hcap⟩ : ∃ (s : SI) (cap : Nat), Go.F.sg σ id = some s ∧ a.eval x = .slice (some ⟨s.blk, 0, none⟩) m cap ∧ m ≤ cap ∧ cap * s.esz = s.csz := by simpa only [relV] using hx
      obtain ⟨vs, hlen, hcell, hrel⟩ := ldn_sound h (c := ⟨s.blk, 0, none⟩) (by simp [conc, hsg]) hl
      have hvs := relL_ints hns hrel
      have hload := Go.F.run_loadCells (P := C.P) hlen hcell
      refine Outc.quiet h (cv := .string (pushAll ns)) ?_ (by simp only [relV])
      simp [execOp, ho, ex, run_convert_bytes_string (P := C.P) w src dst e _ _ _ hs he hd, run_bytesToString (P := C.P) w _ m cap ns (by rw [← hvs]; exact hload), pushAll]
    · cases hv
  · rename_i ad m
    split at hv
    · rename_i l hl
      simp only [Option.map_eq_some_iff] at hv
      obtain ⟨ns, hns, rfl⟩ := hv
      obtain ⟨c, c', cap, hc, ex, hle, hcap⟩ : ∃ c c' cap, conc σ ad = some c ∧ a.eval x = .slice (some c') m cap ∧ m ≤ cap ∧ (0 < m → c' = c) := by simpa only [relV] using hx
      have hld : ∃ vs : List Value, vs.length = m ∧ vs = ns.map (Value.int .u8) ∧ ∀ i u, vs[i]? = some u → w.cell? (c'.add i) = some u := by
        obtain ⟨vs, hlen, hcell, hrel⟩ := ldn_sound h hc hl
        refine ⟨vs, hlen, relL_ints hns hrel, fun i u hu => ?_⟩
        have : 0 < m := by
          have := (List.getElem?_eq_some_iff.1 hu).1
          omega
        rw [hcap this]
        simpa using hcell i u hu
      obtain ⟨vs, hlen, hvs, hcell⟩ := hld
      have hload := Go.F.run_loadCells (P := C.P) (w := w) (a := c') hlen (by simpa using hcell)
      refine Outc.quiet h (cv := .string (pushAll ns)) ?_ (by simp only [relV])
      simp [execOp, ho, ex, run_convert_bytes_string (P := C.P) w src dst e _ _ _ hs he hd, run_bytesToString (P := C.P) w _ m cap ns (by rw [← hvs]; exact hload), pushAll]
    · cases hv
  · cases hv

theorem step_mkslice (hp : Free σ H pl) {T e : TypeId} {i : TypeInfo} {z : Value} {x y : Operand} {v : AVal} {H' : AHeap} (ht : C.P.underlying T = some (.slice e)) (hi : C.P.info? e = some i) (hz : i.zero = some z) (hzs : z.cells.size = i.size) (h0 : 0 < i.size)
    (hv : mksliceA pl H e i.bytes (z.cells.toList.map baseV) (evalO t (cO x)) (evalO t (cO y)) = some (v, H')) (ho : o.op = .makeSlice T x y) : Outc C σ pl ((execOp a.eval o).run C.P w) v H' := by
  have hx := relO hF x
  have hy := relO hF y
  generalize hg : evalO t (cO x) = g at *
  generalize hg2 : evalO t (cO y) = g2 at *
  unfold mksliceA at hv
  split at hv
  rotate_left
  · cases hv
  rename_i l c
  split at hv
  rotate_left
  · cases hv
  rename_i hc
  obtain ⟨h1, h2, h3, h4⟩ := hc
  simp only [Option.some.injEq, Prod.mk.injEq] at hv
  obtain ⟨rfl, rfl⟩ := hv
  have ex : a.eval x = .int .i64 l := by simpa only [relV] using hx
  have ey : a.eval y = .int .i64 c := by simpa only [relV] using hy
  have hr := run_make (P := C.P) w T e i z ht hi hz .i64 .i64 l c h1 h2 (by
    have : ((c.toNat * i.bytes : Nat) : Int) ≤ 140737488355328 := by omega
    rw [Int.natCast_mul, Int.toNat_of_nonneg (by omega), Int.mul_comm] at this
    omega) (by omega)
  have hzl : (z.cells.toList.map baseV).length = i.size := by simp [hzs]
  have hlen : (zerosA (z.cells.toList.map baseV) c.toNat).length = c.toNat * i.size := by simp [zerosA, hzs]
  have hms : (madeCells z.cells (c.toNat * i.size)).size = c.toNat * i.size := size_madeCells _ _
  have hrel : relL σ (zerosA (z.cells.toList.map baseV) c.toNat) (madeCells z.cells (c.toNat * i.size)).toList := by
    have e : zerosA (z.cells.toList.map baseV) c.toNat = (madeCells z.cells (c.toNat * i.size)).toList.map baseV := by
      simp only [zerosA, hzl, madeCells, Array.toList_map, Array.toList_range, List.map_map]
      apply List.map_congr_left
      intro j hj
      have hm : j % i.size < z.cells.size := by rw [hzs]; exact Nat.mod_lt _ h0
      simp only [Function.comp_apply, List.getD_eq_getElem?_getD, List.getElem?_map, Array.getElem?_toList, hzs]
      rw [Array.getElem?_eq_getElem hm, getElem!_pos z.cells (j % i.size) hm]
      rfl
    rw [e]
    exact relL_baseV σ _
  have hrep := h.alloc hp (cells := zerosA (z.cells.toList.map baseV) c.toNat) (c := madeCells z.cells (c.toNat * i.size)) (ty := e) (esz := i.size) (by rw [hi]; rfl) (by rw [hlen, hms]; exact Nat.le_refl _)
    (by rw [List.take_of_length_le (by rw [hlen, Array.length_toList, hms]; exact Nat.le_refl _)]; exact hrel)
  refine ⟨_, .slice (some ⟨w.heap.size, 0, none⟩) l.toNat c.toNat, _, _, by simp [execOp, ho, ex, ey, hr], .inl rfl, .inr ⟨_, rfl⟩, ?_, hrep⟩
  simp only [relV]
  exact ⟨⟨w.heap.size, (madeCells z.cells (c.toNat * i.size)).size, i.size⟩, c.toNat, by rw [Go.F.sg_setAt (by rw [h.len]; exact hp.le), if_pos rfl], rfl, by omega, by simp [hms]⟩

end

theorem eqOffs_append {xs ys : List AVal} : ∀ {l r : List (Nat × Nat)} {b : Bool}, eqOffs xs ys (l ++ r) = some b → ∃ b1 b2, eqOffs xs ys l = some b1 ∧ eqOffs xs ys r = some b2 ∧ b = (b1 && b2)
  | [], r, b, h => ⟨true, b, rfl, h, by simp⟩
  | i :: l, r, b, h => by
    simp only [List.cons_append, eqOffs] at h ⊢
    split at h
    · split at h
      · rename_i b1 b2 h1 h2
        simp only [Option.some.injEq] at h
        subst h
        obtain ⟨c1, c2, e1, e2, rfl⟩ := eqOffs_append h2
        rw [e1, h1]
        exact ⟨_, _, rfl, e2, by simp [Bool.and_assoc]⟩
      · cases h
    · cases h

theorem eqOffs_sub {xs ys : List AVal} {off n : Nat} : ∀ {l : List (Nat × Nat)}, l.all (·.1 < n) = true → eqOffs xs ys (l.map fun p => (off + p.1, p.2)) = eqOffs ((xs.drop off).take n) ((ys.drop off).take n) l
  | [], _ => rfl
  | i :: l, h => by
    simp only [List.all_cons, Bool.and_eq_true, decide_eq_true_eq] at h
    have e : ∀ zs : List AVal, ((zs.drop off).take n)[i.1]? = zs[off + i.1]? := fun zs => by
      rw [List.getElem?_take, if_pos h.1, List.getElem?_drop]
    simp only [List.map_cons, eqOffs, e, eqOffs_sub h.2]

theorem run_eqOne {P : Program} {σ : Sg} {d : Nat} {t : TypeId} {x y : AVal} {b : Bool} {v u : Value} {k : Nat} (ht : (k = 0 ∧ P.underlying t = some .bool) ∨ (k = 1 ∧ ∃ k, P.underlying t = some (.int k)) ∨ (k = 2 ∧ P.underlying t = some .string)) (h : eqOne k x y = some b) (hv : relV σ x v) (hu : relV σ y u) (w : World) :
    (Op.equalIn (d + 1) t v u).run P w = .ok b w := by
  rcases ht with ⟨rfl, ht⟩ | ⟨rfl, k', ht⟩ | ⟨rfl, ht⟩ <;> cases x <;> simp only [eqOne, reduceCtorEq] at h <;> cases y <;> simp only [eqOne, reduceCtorEq] at h
  · simp only [relV] at hv hu; subst hv; subst hu
    simp only [Option.some.injEq] at h; subst h
    exact run_equalIn_bool' w d t _ _ ht
  · simp only [relV] at hv hu; subst hv; subst hu
    split at h
    · rename_i e; subst e
      simp only [Option.some.injEq] at h; subst h
      exact run_equalIn_int w d t _ k' _ _ ht
    · cases h
  · simp only [relV] at hv hu; subst hv; subst hu
    simp only [Option.some.injEq] at h; subst h
    exact run_equalIn_string w d t _ _ ht

theorem run_flatF {P : Program} {σ : Sg} {d N : Nat} {g : TypeId → Option (List (Nat × Nat))}
    (hg : ∀ t l n, g t = some l → sizeT P t = some n → ∀ (xs ys : List AVal) (cs ds : Array Value) (b : Bool) (w : World), relL σ xs cs.toList → relL σ ys ds.toList → xs.length = n → ys.length = n → eqOffs xs ys l = some b → (Op.equalIn (d + 1) t (.agg cs) (.agg ds)).run P w = .ok b w) :
    ∀ {fs : List Field} {l : List (Nat × Nat)}, flatF g P N fs = some l → ∀ (xs ys : List AVal) (cs ds : Array Value) (b : Bool) (w : World), relL σ xs cs.toList → relL σ ys ds.toList → xs.length = N → ys.length = N → eqOffs xs ys l = some b →
      (Op.eqFields (d + 1) cs ds fs).run P w = .ok b w
  | [], l, h, xs, ys, cs, ds, b, w, hx, hy, _, _, he => by
    simp only [flatF, Option.some.injEq] at h; subst h
    simp only [eqOffs, Option.some.injEq] at he; subst he
    simp [Op.eqFields]
  | f :: r, l, h, xs, ys, cs, ds, b, w, hx, hy, hxl, hyl, he => by
    unfold flatF at h
    split at h
    · cases h
    rename_i hname
    have one : ∀ (k : Nat) (l' : List (Nat × Nat)), ((k = 0 ∧ P.underlying f.type = some .bool) ∨ (k = 1 ∧ ∃ k, P.underlying f.type = some (.int k)) ∨ (k = 2 ∧ P.underlying f.type = some .string)) → flatF g P N r = some l' →
        optSize P f.type = some none → l = (f.offset, k) :: l' → (Op.eqFields (d + 1) cs ds (f :: r)).run P w = .ok b w := by
      intro k l' hk hr ho hl
      subst hl
      simp only [eqOffs] at he
      split at he
      · rename_i x y hx1 hy1
        split at he
        · rename_i b1 b2 h1 h2
          simp only [Option.some.injEq] at he; subst he
          obtain ⟨cv, hc, hcr⟩ := run_part (σ := σ) P w ho hx (off := f.offset) (v := x) (by simpa [fieldA] using hx1)
          obtain ⟨dv, hd, hdr⟩ := run_part (σ := σ) P w ho hy (off := f.offset) (v := y) (by simpa [fieldA] using hy1)
          have hq := run_eqOne (d := d) hk h1 hcr hdr w
          have ih := run_flatF hg hr xs ys cs ds b2 w hx hy hxl hyl h2
          cases b1 <;> simp [Op.eqFields, hname, hc, hd, hq, ih]
        · cases he
      · cases he
    split at h
    · rename_i hu hr
      split at h
      · rename_i ho; simp only [Option.some.injEq] at h; exact one 0 _ (.inl ⟨rfl, hu⟩) hr ho h.symm
      · cases h
    · rename_i hu hr
      split at h
      · rename_i ho; simp only [Option.some.injEq] at h; exact one 1 _ (.inr (.inl ⟨rfl, _, hu⟩)) hr ho h.symm
      · cases h
    · rename_i hu hr
      split at h
      · rename_i ho; simp only [Option.some.injEq] at h; exact one 2 _ (.inr (.inr ⟨rfl, hu⟩)) hr ho h.symm
      · cases h
    · rename_i fs2 l' hu hr
      split at h
      · rename_i l2 n hg2 ho
        split at h
        · rename_i hcond
          obtain ⟨hfit, hall⟩ := hcond
          simp only [Option.some.injEq] at h; subst h
          obtain ⟨b1, b2, h1, h2, rfl⟩ := eqOffs_append he
          rw [eqOffs_sub hall] at h1
          obtain ⟨cv, hc, hcr⟩ := run_part (σ := σ) P w ho hx (off := f.offset) (v := .agg ((xs.drop f.offset).take n)) (by simp [fieldA]; omega)
          obtain ⟨dv, hd, hdr⟩ := run_part (σ := σ) P w ho hy (off := f.offset) (v := .agg ((ys.drop f.offset).take n)) (by simp [fieldA]; omega)
          simp only [relV] at hcr hdr
          obtain ⟨cs', rfl, hcr⟩ := hcr
          obtain ⟨ds', rfl, hdr⟩ := hdr
          have hsz : sizeT P f.type = some n := by
            unfold optSize at ho
            split at ho <;> simp only [Option.some.injEq, reduceCtorEq] at ho
            rename_i hs; rw [hs, ho]
          have hq := hg f.type l2 n hg2 hsz _ _ cs' ds' b1 w hcr hdr (by simp; omega) (by simp; omega) h1
          have ih := run_flatF hg hr xs ys cs ds b2 w hx hy hxl hyl h2
          cases b1 <;> simp [Op.eqFields, hname, hc, hd, hq, ih]
        · cases h
      · cases h
    · cases h

theorem run_flatT {P : Program} {σ : Sg} : ∀ (D : Nat) {d : Nat} {t : TypeId} {l : List (Nat × Nat)} {n : Nat}, flatT P D t = some l → sizeT P t = some n → ∀ (xs ys : List AVal) (cs ds : Array Value) (b : Bool) (w : World), relL σ xs cs.toList → relL σ ys ds.toList → xs.length = n → ys.length = n → eqOffs xs ys l = some b →
    (Op.equalIn (d + D + 1) t (.agg cs) (.agg ds)).run P w = .ok b w
  | 0, d, t, l, n, h, _, xs, ys, cs, ds, b, w, _, _, _, _, _ => by simp [flatT] at h
  | D + 1, d, t, l, n, h, hn, xs, ys, cs, ds, b, w, hx, hy, hxl, hyl, he => by
    unfold flatT at h
    split at h
    · cases h
    rename_i hst
    split at h
    · rename_i fs N hu hN
      rw [hn] at hN
      cases hN
      have hfo : P.fieldsOf t = fs := by simp [Program.fieldsOf, hu]
      rw [show d + (D + 1) + 1 = (d + D + 1) + 1 by omega, run_equalIn_struct w (d + D + 1) t cs ds (by rw [hfo]; exact hu) (by simpa using hst), hfo]
      exact run_flatF (d := d + D) (fun t l n h hn xs ys cs ds b w hx hy hxl hyl he => run_flatT D h hn xs ys cs ds b w hx hy hxl hyl he) h xs ys cs ds b w hx hy hxl hyl he
    · cases h

theorem step_binAgg {C : Ctx} {σ : Sg} {pl : Nat} {H : AHeap} {w : World} (h : Rep C σ H w) {op : BinOp} {xT : TypeId} {x y : Operand} {yT : TypeId} {xs ys : List AVal} {v : AVal} {ρ : Operand → Value}
    (hx : relV σ (.agg xs) (ρ x)) (hy : relV σ (.agg ys) (ρ y)) (hs : binA op (clsT C.P xT) (.agg xs) (.agg ys) = some v) (o : Oper) (ho : o.op = .binOp op xT x y yT) :
    Outc C σ pl ((execOp ρ o).run C.P w) v H := by
  simp only [relV] at hx hy
  obtain ⟨cs, ex, hx⟩ := hx
  obtain ⟨ds, ey, hy⟩ := hy
  have main : ∀ b, eqFlat (clsT C.P xT) xs ys = some b → C.P.eqGuardType C.P.depth xT = false ∧ (Op.equalIn 10000 xT (.agg cs) (.agg ds)).run C.P w = .ok b w := by
    intro b hb
    unfold eqFlat at hb
    split at hb
    · rename_i n offs hc
      split at hb
      · rename_i hl
        unfold clsT at hc
        split at hc <;> try (cases hc; done)
        unfold flatCls at hc
        split at hc
        · rename_i l k hf hk
          split at hc
          · cases hc
          · rename_i hq
            simp only [Cls.flat.injEq] at hc
            obtain ⟨rfl, rfl⟩ := hc
            exact ⟨by simpa using hq, run_flatT 8 (d := 9991) hf hk xs ys cs ds b w hx hy hl.1 hl.2 hb⟩
        · cases hc
      · cases hb
    · cases hb
  cases op <;> simp only [binA, reduceCtorEq, Option.map_eq_some_iff] at hs
  · obtain ⟨b, hb, rfl⟩ := hs
    obtain ⟨hq, hr⟩ := main b hb
    refine Outc.quiet h (cv := .bool b) ?_ (by simp only [relV])
    simp [execOp, ho, ex, ey, run_eqGuard_agg w .eql xT x y cs ds hq, run_eql_struct w xT cs ds, hr]
  · obtain ⟨b, hb, rfl⟩ := hs
    obtain ⟨hq, hr⟩ := main b hb
    refine Outc.quiet h (cv := .bool (!b)) ?_ (by simp only [relV])
    simp [execOp, ho, ex, ey, run_eqGuard_agg w .neq xT x y cs ds hq, run_neq_struct w xT cs ds, hr]

end Go.F
