/- Each operation does what the language says: the other ones without memory. -/
import Derived.Test.YtlghjfmehfochaaDoorFE
set_option linter.all false
namespace Go.F
open Go.RowKit

theorem relL_map {σ : Sg} {n : Nat} {t : Fr} {a : Act} (hF : relF σ n t a.tmps) {l : List Operand} : relL σ (l.map fun x => evalO t (cO x)) (l.map a.eval) := by
  induction l with
  | nil => simp [relL]
  | cons x l ih => simp only [List.map, relL]; exact ⟨_, _, rfl, relO hF x, ih⟩

theorem run_isAgg {P : Program} {T : TypeId} {d : TypeDesc} (hu : P.underlying T = some d) (w : World) : (isAgg T).run P w = .ok (aggD d) w := by
  cases d <;> simp [isAgg, run_under hu, aggD]

theorem optSize_cases {P : Program} {T : TypeId} {os : Option Nat} (hT : optSize P T = some os) : ∃ d i, P.underlying T = some d ∧ P.info? T = some i ∧ ((aggD d = true ∧ os = some i.size) ∨ (aggD d = false ∧ os = none)) := by
  unfold optSize aggT sizeT at hT
  cases hu : P.underlying T with
  | none => simp [hu] at hT
  | some d =>
    cases hi : P.info? T with
    | none => simp [hu, hi] at hT
    | some i =>
      simp only [hu, hi, Option.map_some] at hT
      refine ⟨d, i, rfl, rfl, ?_⟩
      cases hd : aggD d <;> rw [hd] at hT <;> simp at hT <;> subst hT <;> simp

theorem run_part {σ : Sg} (P : Program) (w : World) {T : TypeId} {os : Option Nat} (hT : optSize P T = some os) {l : List AVal} {cs : Array Value} (hr : relL σ l cs.toList) {off : Nat} {v : AVal} (hv : fieldA off os (.agg l) = some v) :
    ∃ cv, (part T cs off).run P w = .ok cv w ∧ relV σ v cv := by
  obtain ⟨d, i, hu, hi, ⟨hd, rfl⟩ | ⟨hd, rfl⟩⟩ := optSize_cases hT
  · simp only [fieldA] at hv
    split at hv
    · simp only [Option.some.injEq] at hv
      subst hv
      refine ⟨.agg (cs.extract off (off + i.size)), by simp [part, run_isAgg hu, hd, sizeOf, typeInfo, hi], ?_⟩
      simp only [relV]
      refine ⟨_, rfl, ?_⟩
      rw [Array.toList_extract, List.extract_eq_take_drop]
      have := (hr.drop off).take i.size
      simpa using this
    · cases hv
  · simp only [fieldA] at hv
    obtain ⟨cv, hcv, hrv⟩ := hr.get hv
    refine ⟨cv, ?_, hrv⟩
    have hget : cs[off]? = some cv := by rw [← Array.getElem?_toList]; exact hcv
    simp only [part, Sem.run_bind, run_isAgg hu, hd, Result.andThen, hget]
    rfl

section
variable {C : Ctx} {σ : Sg} {pl : Nat} {H : AHeap} {w : World} (h : Rep C σ H w) {n : Nat} {t : Fr} {a : Act} (hF : relF σ n t a.tmps) (o : Oper)
include h hF

theorem step_mov {x : Operand} (ho : o.op = .move x ∨ o.op = .assign x) : Outc C σ pl ((execOp a.eval o).run C.P w) (evalO t (cO x)) H := by
  refine Outc.quiet h (cv := a.eval x) ?_ (relO hF x)
  rcases ho with ho | ho <;> simp [execOp, ho]

theorem step_pick {c x y : Operand} {v : AVal} {bb : Bool} (hc : evalO t (cO c) = .bool bb) (hv : v = if bb then evalO t (cO x) else evalO t (cO y)) (ho : o.op = .pick c x y) :
    Outc C σ pl ((execOp a.eval o).run C.P w) v H := by
  have hb := relO hF c
  rw [hc] at hb
  have e : a.eval c = .bool bb := by simpa only [relV] using hb
  subst hv
  cases bb
  · exact Outc.quiet h (cv := a.eval y) (by simp [execOp, ho, e, asBool]) (relO hF y)
  · exact Outc.quiet h (cv := a.eval x) (by simp [execOp, ho, e, asBool]) (relO hF x)

theorem step_nilchk {x : Operand} {v : AVal} (hv : nilchkA (evalO t (cO x)) = some v) (ho : o.op = .nilCheck x) : Outc C σ pl ((execOp a.eval o).run C.P w) v H := by
  have hx := relO hF x
  generalize hg : evalO t (cO x) = g at *
  cases g <;> simp [nilchkA] at hv
  · subst hv
    obtain ⟨c, hc, e⟩ : ∃ c, conc σ _ = some c ∧ a.eval x = .pointer (some c) := by simpa only [relV] using hx
    exact Outc.quiet h (cv := a.eval x) (by simp [execOp, ho, e]) hx
  · subst hv
    obtain ⟨cs, e, hr⟩ : ∃ cs : Array Value, a.eval x = .func (.func _) #[] cs ∧ relL σ _ cs.toList := by simpa only [relV] using hx
    exact Outc.quiet h (cv := a.eval x) (by simp [execOp, ho, e]) hx
  · subst hv
    obtain ⟨cs, e, hr⟩ : ∃ cs : Array Value, a.eval x = .func (.func _) cs #[] ∧ relL σ _ cs.toList := by simpa only [relV] using hx
    exact Outc.quiet h (cv := a.eval x) (by simp [execOp, ho, e]) hx

theorem step_un {op : UnOp} {T : TypeId} {x : Operand} {v : AVal} (hv : unA op (evalO t (cO x)) = some v) (ho : o.op = .unOp op T x) : Outc C σ pl ((execOp a.eval o).run C.P w) v H := by
  have hx := relO hF x
  generalize hg : evalO t (cO x) = g at *
  cases op <;> cases g <;> simp [unA] at hv
  · subst hv
    rename_i k m
    have e := relV_int hx
    exact Outc.quiet h (cv := .int k (k.wrap (-m))) (by simp [execOp, ho, e, Op.unary, Op.intArith]) (by simp only [relV])
  · subst hv
    rename_i b
    have e : a.eval x = .bool b := by simpa only [relV] using hx
    exact Outc.quiet h (cv := .bool (!b)) (by simp [execOp, ho, e, Op.unary]) (by simp only [relV])

theorem step_conv {src dst : TypeId} {x : Operand} {k k' : IntKind} {m : Int} (hs : C.P.underlying src = some (.int k')) (hd : C.P.underlying dst = some (.int k)) (hv : asI (evalO t (cO x)) = some m) (ho : o.op = .convert src dst x) :
    Outc C σ pl ((execOp a.eval o).run C.P w) (.int k (k.wrap m)) H := by
  obtain ⟨k2, e⟩ := relV_asI (relO hF x) hv
  exact Outc.quiet h (cv := .int k (k.wrap m)) (by simp [execOp, ho, convert, run_under hs, run_under hd, e, Conv.intToInt]) (by simp only [relV])

theorem step_mkfn {f : Nat} {first caps : Array Operand} (hfi : first = #[]) (ho : o.op = .makeFunc (.func f) first caps) :
    Outc C σ pl ((execOp a.eval o).run C.P w) (.fn f ((caps.toList.map cO).map (evalO t))) H := by
  subst hfi
  refine Outc.quiet h (cv := .func (.func f) #[] (caps.map a.eval)) (by simp [execOp, ho, Instr.makeFunc, pure]) ?_
  simp only [relV]
  refine ⟨_, rfl, ?_⟩
  rw [List.map_map, Array.toList_map]
  simpa [Function.comp_def] using relL_map hF

theorem step_faddr {s : TypeId} {x : Operand} {f : Nat} {fields : Array Field} {fd : Field} {k : Nat} {p : AAd} (hu : C.P.underlying s = some (.struct fields)) (hf : fields[f]? = some fd) (hk : sizeT C.P fd.type = some k) (hk0 : k ≠ 0)
    (hv : evalO t (cO x) = .ptr p) (ho : o.op = .fieldAddr s x f) : Outc C σ pl ((execOp a.eval o).run C.P w) (.ptr (addA p fd.offset)) H := by
  have hx := relO hF x
  rw [hv] at hx
  obtain ⟨c, hc, e⟩ : ∃ c, conc σ p = some c ∧ a.eval x = .pointer (some c) := by simpa only [relV] using hx
  obtain ⟨i, hi, hsz⟩ := Option.map_eq_some_iff.1 hk
  refine Outc.quiet h (cv := .pointer (some (c.add fd.offset))) ?_ (by simp only [relV]; exact ⟨_, conc_addA hc _, rfl⟩)
  simp [execOp, ho, Instr.fieldAt, run_under hu, hf, e, Instr.sureAddr, fieldPlace, sizeOf, typeInfo, hi, hsz, hk0]

theorem step_field {T : TypeId} {x : Operand} {f : Nat} {fields : Array Field} {fd : Field} {os : Option Nat} {v : AVal} (hu : C.P.underlying T = some (.struct fields)) (hf : fields[f]? = some fd) (hk : optSize C.P fd.type = some os)
    (hv : fieldA fd.offset os (evalO t (cO x)) = some v) (ho : o.op = .field T x f) : Outc C σ pl ((execOp a.eval o).run C.P w) v H := by
  have hx := relO hF x
  generalize hg : evalO t (cO x) = g at *
  cases g <;> simp [fieldA] at hv
  rename_i l
  obtain ⟨cs, e, hr⟩ : ∃ cs : Array Value, a.eval x = .agg cs ∧ relL σ l cs.toList := by simpa only [relV] using hx
  obtain ⟨cv, h1, h2⟩ := run_part C.P w hk hr (v := v) (off := fd.offset) (by simpa [fieldA] using hv)
  exact Outc.quiet h (cv := cv) (by simp [execOp, ho, Instr.field, run_under hu, hf, e, asAgg, h1]) h2

theorem step_extract {x : Operand} {i : Nat} {l : List AVal} {v : AVal} (hg : evalO t (cO x) = .tup l) (hv : l[i]? = some v) (ho : o.op = .extract x i) : Outc C σ pl ((execOp a.eval o).run C.P w) v H := by
  have hx := relO hF x
  rw [hg] at hx
  obtain ⟨cs, e, hr⟩ : ∃ cs : Array Value, a.eval x = .tuple cs ∧ relL σ l cs.toList := by simpa only [relV] using hx
  obtain ⟨cv, hcv, hrv⟩ := hr.get hv
  have : cs[i]? = some cv := by simpa using hcv
  exact Outc.quiet h (cv := cv) (by simp [execOp, ho, Instr.extract, e, this, pure]) hrv

theorem step_indexS {T : TypeId} {x i : Operand} {v : AVal} (hu : C.P.underlying T = some .string) (hv : indexStr (evalO t (cO x)) (evalO t (cO i)) = some v) (ho : o.op = .index T x i) :
    Outc C σ pl ((execOp a.eval o).run C.P w) v H := by
  have hx := relO hF x
  have hi := relO hF i
  generalize hg : evalO t (cO x) = g at *
  generalize hg2 : evalO t (cO i) = g2 at *
  cases g <;> cases g2 <;> simp [indexStr] at hv
  rename_i s k j
  obtain ⟨h0, b, hb, rfl⟩ := hv
  have e : a.eval x = .string s := by simpa only [relV] using hx
  have e2 := relV_int hi
  exact Outc.quiet h (cv := .int .u8 b.toNat) (by simp [execOp, ho, Instr.index, run_under hu, e, e2, asIntOf, h0, hb]) (by simp only [relV])

theorem step_iaddr {T elem : TypeId} {x i : Operand} {k : Nat} {v : AVal} (hu : C.P.underlying T = some (.slice elem)) (hk : sizeT C.P elem = some k) (hv : iaddrO k (evalO t (cO x)) (evalO t (cO i)) = some v) (ho : o.op = .indexAddr T x i) :
    Outc C σ pl ((execOp a.eval o).run C.P w) v H := by
  have hx := relO hF x
  have hi := relO hF i
  obtain ⟨ti, hti, hsz⟩ := Option.map_eq_some_iff.1 hk
  generalize hg : evalO t (cO x) = g at *
  generalize hg2 : evalO t (cO i) = g2 at *
  cases g <;> cases g2 <;> simp [iaddrO] at hv
  · rename_i id m kk j
    obtain ⟨⟨h0, h1⟩, rfl⟩ := hv
    obtain ⟨s, cap, hs, e, _, _⟩ : ∃ s cap, sg σ id = some s ∧ a.eval x = .slice (some ⟨s.blk, 0, none⟩) m cap ∧ m ≤ cap ∧ cap * s.esz = s.csz := by simpa only [relV] using hx
    have e2 := relV_int hi
    refine Outc.quiet h (cv := .pointer (some ((⟨s.blk, 0, none⟩ : Addr).add (j.toNat * k)))) (by simp [execOp, ho, Instr.indexAt, run_under hu, e, e2, asIntOf, h0, h1, sizeOf, typeInfo, hti, hsz]) ?_
    simp only [relV, conc, hs, Option.map_some]
    exact ⟨_, rfl, by rw [addr_add_loc, Nat.zero_add]⟩
  · rename_i p m kk j
    obtain ⟨⟨h0, h1⟩, rfl⟩ := hv
    obtain ⟨c, c', cap, hc, e, _, hcc⟩ : ∃ c c' cap, conc σ p = some c ∧ a.eval x = .slice (some c') m cap ∧ m ≤ cap ∧ (0 < m → c' = c) := by simpa only [relV] using hx
    have : c' = c := hcc (by omega)
    subst this
    have e2 := relV_int hi
    refine Outc.quiet h (cv := .pointer (some (c'.add (j.toNat * k)))) (by simp [execOp, ho, Instr.indexAt, run_under hu, e, e2, asIntOf, h0, h1, sizeOf, typeInfo, hti, hsz]) ?_
    simp only [relV]
    exact ⟨_, conc_addA hc _, rfl⟩

theorem step_iaddrA {T elem : TypeId} {x i : Operand} {len k : Nat} {v : AVal} (hu : C.P.underlying T = some (.array len elem)) (hk : sizeT C.P elem = some k) (hv : iaddrArr len k (evalO t (cO x)) (evalO t (cO i)) = some v) (ho : o.op = .indexAddr T x i) :
    Outc C σ pl ((execOp a.eval o).run C.P w) v H := by
  have hx := relO hF x
  have hi := relO hF i
  obtain ⟨ti, hti, hsz⟩ := Option.map_eq_some_iff.1 hk
  generalize hg : evalO t (cO x) = g at *
  generalize hg2 : evalO t (cO i) = g2 at *
  cases g <;> cases g2 <;> simp [iaddrArr] at hv
  rename_i p kk j
  obtain ⟨⟨h0, h1⟩, rfl⟩ := hv
  obtain ⟨c, hc, e⟩ : ∃ c, conc σ p = some c ∧ a.eval x = .pointer (some c) := by simpa only [relV] using hx
  have e2 := relV_int hi
  refine Outc.quiet h (cv := .pointer (some (c.add (j.toNat * k)))) (by simp [execOp, ho, Instr.indexAt, run_under hu, e, e2, asIntOf, h0, h1, sizeOf, typeInfo, hti, hsz, Instr.sureAddr]) ?_
  simp only [relV]
  exact ⟨_, conc_addA hc _, rfl⟩

end

end Go.F
