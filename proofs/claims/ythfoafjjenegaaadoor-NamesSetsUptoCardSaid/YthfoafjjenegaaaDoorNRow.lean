/- Names: the world of the witness, and what a row's list gives. -/
import Derived.Test.YthfoafjjenegaaaDoorNBase
import Derived.Test.YthfoafjjenegaaaDoorRows
import Derived.Lib.LaidU8
import Derived.Shelf.Vars
import Derived.ProofKit
import Derived.SizedLaws
import Derived.Deep.DeepHandedRow
import Derived.Deep.DeepWitnessRowRef
set_option linter.unusedVariables false
set_option linter.unusedSimpArgs false
namespace Go.Proofs.YthfoafjjenegaaaDoor
open Go.RowKit Go.Shelf Go.Proofs.YthfoafjjenegaaaDoorW.PrintWords

theorem names_own : ownKnob Tryd.prog.godebug = none := by kernel_rfl
theorem names_laidOut : laidOutB Tryd.prog = true := by kernel_rfl
abbrev LAID : List (String × DataW Unit) := [("unicode.White_Space", Rows.laid_unicode_White_Space), ("strings.asciiSpace", Rows.laid_strings_asciiSpace)]
theorem sp_name : Tryd.prog.globalNamed "strings.asciiSpace" = some 0 := by kernel_rfl
theorem sp_type : (Tryd.prog.globals[0]?).map (·.type) = some 53 := by kernel_rfl
theorem sp_data : (Rows.laid_strings_asciiSpace : DataW Unit) = Lib.tabData .u8 Lib.asciiSpaceTab := by kernel_rfl
set_option maxRecDepth 100000 in
theorem NOK_of {W : World} (hL : laidMetH Tryd.prog LAID W) (hsh : W.ShapedOpen Tryd.prog) : NOK W := by
  have hL' : laidMet Tryd.prog LAID W := hL
  obtain ⟨g, t, cs, fuel, p, hg, ht, hvar, hd⟩ := Lib.laidMet.reads hL' (n := "strings.asciiSpace") (d := Rows.laid_strings_asciiSpace) (.tail _ (.head _))
  refine ⟨?_, cell_of_shapedOpen_int hsh (g := 2) (t := 3) (zero := #[.int .i64 0]) (by decide) (by kernel_rfl) rfl (by kernel_rfl) (by kernel_rfl) Tryd.underlying3⟩
  obtain rfl := Option.some.inj (sp_name.symm.trans hg)
  obtain rfl := Option.some.inj (sp_type.symm.trans ht)
  rw [sp_data] at hd
  unfold Lib.TabIs
  rw [hvar, ← Lib.cells_of_tab Tryd.underlying53 Tryd.underlying5 (by kernel_rfl) (by kernel_rfl) hd]
/-- A world that meets the list. -/
noncomputable def laidWorld (os : Os) : World :=
  let N := (World.settled Tryd.prog os).heap.size
  let w0 := World.holding Tryd.prog os ⟨#[.cells (Lib.whiteT.map fun (z : Nat) => Value.int .u16 (z : Int)).toArray 72, .cells #[.slice (some ⟨N, 0, none⟩) 7 7, .slice none 0 0, .int .i64 2] 69], #[], []⟩
  let put (h : Array Obj) (g : Nat) (cs : Array Value) : Array Obj := h.modify g fun
    | .cells _ t frozen => .cells cs t frozen
    | o => o
  { w0 with heap := put (put w0.heap 0 (Lib.asciiSpaceTab.map fun z => Value.int .u8 z).toArray) 1 #[.pointer (some ⟨N + 1, 0, none⟩)] }
theorem laid_met (os : Os) (args : Array Value) : laidMet Tryd.prog LAID ((laidWorld os).forCall (fun _ _ => 0) ⟨#[], args, []⟩).memory :=
  laidMet_of_run' 10 (by kernel_rfl) (by kernel_rfl)
end Go.Proofs.YthfoafjjenegaaaDoor
