/- copy into a row of one's own, from a string or a row; a load of a row, in a fence. -/
import Derived.Test.YtekhmkfiepnnkaaSealB
import Derived.Test.YtekhmkfiepnnkaaPlanIn
import Derived.Lib.BufferWrite
set_option linter.unusedVariables false
set_option linter.unusedSimpArgs false
namespace Go.Proofs.Ytekhmkfiepnnkaa
open Go.RowKit Go.Lib Go.Proofs.YtekhmkfiepnnkaaW.PrintWords Go.Proofs.YtekhmkfiepnnkaaW.PrintMore

theorem heap_setRow {w : World} {g : Nat} {cur cs : Array Value} {t : TypeId} (h : w.heap[g]? = some (.cells cur t (0, 0))) : (w.setRow g cs).heap[g]? = some (.cells cs t (0, 0)) := setRow_heap w g cur cs t (0, 0) h
theorem byteCells_nums (s : ByteArray) : byteCells s.data.toList = nums .u8 (bytesOf s) := by simp [byteCells, nums, bytesOf]
theorem BU.copy_str {P : Program} {w : World} {g : Nat} {T : TypeId} {ys : List Int} (h : BU w g T ys) (dT sT ty elem : TypeId) (o dLen dCap : Nat) (s : ByteArray) (hu : P.underlying dT = some (.slice elem)) (hs : (P.info? elem).map (·.size) = some 1)
    (hle : s.size ≤ dLen) (hfit : o + s.size ≤ ys.length) :
    ∃ w', (Builtin.copy_ #[dT, sT] ty #[.slice (some ⟨g, o, none⟩) dLen dCap, .string s]).run P w = .ok (.int .i64 s.size) w' ∧ BU w' g T (splice ys o (bytesOf s)) ∧ Chg (fun k => k = g) w w' := by
  refine ⟨_, run_copy_row_string w dT sT ty elem g o dLen dCap s _ T hu hs h hle (by simpa [nums] using hfit), ?_, (Chg.refl (fun k => k = g) w).setRow (.inl rfl) _⟩
  unfold BU
  rw [heap_setRow h]
  congr 3
  rw [byteCells_nums, List.toList_toArray]
  simp [splice, nums, bytesOf_length, List.map_take, List.map_drop, List.append_assoc]
theorem BU.copy_row {P : Program} {w : World} {g : Nat} {T : TypeId} {ys xs : List Int} {A : Option Addr} (h : BU w g T ys) (dT sT ty elem : TypeId) (o dLen dCap sCap : Nat) (hC : KB.C w A xs.length xs) (hu : P.underlying dT = some (.slice elem)) (hs : (P.info? elem).map (·.size) = some 1)
    (hfit : o + min xs.length dLen ≤ ys.length) :
    ∃ w', (Builtin.copy_ #[dT, sT] ty #[.slice (some ⟨g, o, none⟩) dLen dCap, .slice A xs.length sCap]).run P w = .ok (.int .i64 (min xs.length dLen : Nat)) w' ∧ BU w' g T (splice ys o (xs.take dLen)) ∧ Chg (fun k => k = g) w w' := by
  cases A with
  | none =>
    have := C_none hC
    subst this
    refine ⟨w, ?_, by simpa [splice] using h, Chg.refl _ _⟩
    have h2 : ((P.info? elem).map (·.size)).isSome = true := by rw [hs]; rfl
    rw [show (([] : List Int).length) = 0 from rfl]
    cases hq : P.info? elem with
    | none => simp [hq] at hs
    | some i => simp [Builtin.copy_, run_underlying hu, Builtin.lenOf, Builtin.firstCells, sizeOf, typeInfo, hq, Result.andThen, goInt, storeCells]
  | some a =>
    have hl : (nums .u8 (xs.take dLen)).length = Nat.min xs.length dLen := by simp [nums, List.length_take, Nat.min_comm]
    have hl2 : (nums .u8 (xs.take dLen)).length = min xs.length dLen := hl
    refine ⟨_, by
      have := run_copy_row (P := P) w dT sT ty elem g o dLen dCap a xs.length sCap _ T (nums .u8 (xs.take dLen)) hu hs h hl (fun j v hj => ?_) (by rw [hl2]; simpa [nums] using hfit) (fun v hv => by simp only [nums, List.mem_map] at hv; obtain ⟨q, _, rfl⟩ := hv; rfl)
      rw [hl2] at this
      exact this
      · refine cells_of_C hC j v ?_
        simp only [nums, List.getElem?_map, List.getElem?_take] at hj ⊢
        split at hj
        · exact hj
        · simp at hj, ?_, (Chg.refl (fun k => k = g) w).setRow (.inl rfl) _⟩
    unfold BU
    rw [heap_setRow h]
    congr 3
    have e : (xs.take dLen).length = min xs.length dLen := by rw [List.length_take, Nat.min_comm]
    rw [List.toList_toArray]
    simp [splice, nums, e, List.map_take, List.map_drop, List.append_assoc]
theorem wpIn_load_addr {P : Program} {F : Fence} {n : Nat} {op : Oper} {a : Act} {w : World} {K : Act → World → Prop} {Q : Exit → Act → World → Prop} (hro : F.fn = fun _ => True) (ty : TypeId) (x : Operand) (ho : op.op = .load ty x)
    (ad : Addr) (hx : a.eval x = .pointer (some ad)) (cs : List Value) (d : TypeDesc) (hc : ∀ j v, cs[j]? = some v → w.cell? (ad.add j) = some v)
    (hu : P.underlying ty = some d) (hd : d.isRow = true) (hi : (P.info? ty).map (·.size) = some cs.length)
    (h : K (a.put op.dst (.agg cs.toArray)) w) : op.wpIn F n P a w K Q := by
  refine ⟨fun f _ => by rw [hro]; trivial, ?_⟩
  have e : op.semAt F.round a.eval = execOp a.eval op := by
    cases hr : F.round with
    | none => rfl
    | some l => exact Oper.semAt_some l _ _ (fun c hc => by rw [ho] at hc; cases hc)
  rw [e, exec_load_row ty x ho ad hx cs d hc hu hd hi]
  exact h
theorem wpListIn_load_addr {P : Program} {F : Fence} {n : Nat} {ops : Array Oper} {rest : List Oper} {op : Oper} {a : Act} {w : World} {Q : Exit → Act → World → Prop} (hro : F.fn = fun _ => True) (hgd : op.guard = none) (ty : TypeId) (x : Operand) (ho : op.op = .load ty x)
    (ad : Addr) (hx : a.eval x = .pointer (some ad)) (cs : List Value) (d : TypeDesc) (hc : ∀ j v, cs[j]? = some v → w.cell? (ad.add j) = some v)
    (hu : P.underlying ty = some d) (hd : d.isRow = true) (hi : (P.info? ty).map (·.size) = some cs.length)
    (h : wpListIn F n P ops Q rest (a.put op.dst (.agg cs.toArray)) w) : wpListIn F n P ops Q (op :: rest) a w :=
  wpListIn_plain hgd fun _ hK => wpIn_load_addr hro ty x ho ad hx cs d hc hu hd hi (hK _ _ h)
/-- A block's cells, as a load reads them. -/
theorem BU.load {w : World} {g : Nat} {T : TypeId} {ys : List Int} (h : BU w g T ys) : ∀ j v, (nums .u8 ys)[j]? = some v → w.cell? ((⟨g, 0, none⟩ : Addr).add j) = some v := by
  intro j v hj
  rw [add_plain]
  rw [cell_of_row w g j _ _ _ h]
  simpa using hj
end Go.Proofs.Ytekhmkfiepnnkaa
