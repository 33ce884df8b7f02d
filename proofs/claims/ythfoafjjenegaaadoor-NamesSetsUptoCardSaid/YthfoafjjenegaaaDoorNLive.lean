/- Names: Right, Split, Words, Find, Far in memory; live. -/
import Derived.Test.YthfoafjjenegaaaDoorNOps
set_option linter.unusedVariables false
set_option linter.unusedSimpArgs false
namespace Go.Proofs.YthfoafjjenegaaaDoor
open Go.RowKit Go.Sort Go.Proofs.YthfoafjjenegaaaDoorW.PrintWords Go.Proofs.YthfoafjjenegaaaDoor.KCarveNA Go.Proofs.YthfoafjjenegaaaDoor.KCarveNB

theorem Drawn0.below {w w' : World} (h : Drawn0 w w') : Below w.heap.size w w' := by
  obtain ⟨n, rfl⟩ := h
  exact pw_below_drewN (Below.refl _ _) _
theorem right_any {w : World} (s : ByteArray) (hs : s.size ≤ 9223372036854775807) : Calls Tryd.prog 14 #[.string s] w fun e w' => e = .returned (.int .i64 (rightE s)) ∧ Below w.heap.size w w' :=
  (names_Right.calls (s.size + 2) s (rightE s) w (right_f s hs (by omega))).mono fun _ _ ⟨h1, h2⟩ => ⟨h1, h2.below⟩
theorem reserved_any {w : World} (s : ByteArray) : Calls Tryd.prog 16 #[.string s] w fun e w' => e = .returned (.bool (resB s)) ∧ Below w.heap.size w w' :=
  (names_Reserved.calls s (resB s) w (reserved_f s)).mono fun _ _ ⟨h1, h2⟩ => ⟨h1, h2.below⟩
theorem texts_any {w : World} {A1 A2 : Option Addr} {c1 c2 : Nat} {a b : List ByteArray} (h1 : KS.C w A1 a.length a) (k1 : a.length ≤ c1) (h2 : KS.C w A2 b.length b) (k2 : b.length ≤ c2) :
    Calls Tryd.prog 12 #[.slice A1 a.length c1, .slice A2 b.length c2] w fun e w' => ∃ t : Bool, e = .returned (.bool t) ∧ (t = true ↔ a = b) ∧ Below w.heap.size w w' :=
  (foundrylaw04_Texts.calls (a.length + 1) A1 c1 a A2 c2 b _ w h1 k1 h2 k2 (texts_f a b h1.2.1 (by omega))).mono fun _ _ ⟨h1, h2⟩ => ⟨_, h1, by simp, h2.below⟩
theorem texts_same {w : World} {A1 A2 : Option Addr} {c1 c2 : Nat} {a b : List ByteArray} (h1 : KS.C w A1 a.length a) (k1 : a.length ≤ c1) (h2 : KS.C w A2 b.length b) (k2 : b.length ≤ c2) (he : a = b) :
    Calls Tryd.prog 12 #[.slice A1 a.length c1, .slice A2 b.length c2] w fun e w' => e = .returned (.bool true) ∧ Below w.heap.size w w' :=
  (texts_any h1 k1 h2 k2).mono fun _ _ ⟨t, h1, h2, h3⟩ => ⟨by rw [h1, h2.2 he], h3⟩
def E0 : ByteArray := ⟨#[]⟩
/-- What Split answers. -/
noncomputable def splitV (s : ByteArray) : ByteArray × ByteArray × Int :=
  if (Lib.cut (bl s) [46]).2.2 = false then (E0, E0, 12)
  else if ¬ rightE (tx (Lib.cut (bl s) [46]).1) = 0 then (E0, E0, rightE (tx (Lib.cut (bl s) [46]).1))
  else if ¬ rightE (tx (Lib.cut (bl s) [46]).2.1) = 0 then (E0, E0, rightE (tx (Lib.cut (bl s) [46]).2.1))
  else (tx (Lib.cut (bl s) [46]).1, tx (Lib.cut (bl s) [46]).2.1, 0)
theorem tx_size (l : BL) : (tx l).size = l.length := by simp [tx, ByteArray.size]
theorem bl_size (s : ByteArray) : (bl s).length = s.size := by cases s; simp [bl, ByteArray.size]
set_option maxRecDepth 100000 in
set_option maxHeartbeats 4000000 in
theorem split_any {w : World} (s : ByteArray) (hs : s.size < 4294967281) (hw : NOK w) : Calls Tryd.prog 20 #[.string s] w fun e w' => e = .returned (.tuple #[.string (splitV s).1, .string (splitV s).2.1, .int .i64 (splitV s).2.2]) ∧ Below w.heap.size w w' := by
  obtain ⟨m, hm⟩ := hw.2
  have hct := Tryd.strings_Cut s ⟨#[46]⟩ m w hs hm
  have hsz : (Lib.cut (bl s) [46]).1.length ≤ s.size ∧ (Lib.cut (bl s) [46]).2.1.length ≤ s.size := by
    rw [← bl_size]
    unfold Lib.cut
    split
    · exact ⟨by simp; omega, by simp⟩
    · exact ⟨Nat.le_refl _, by simp⟩
  obtain ⟨a, ha⟩ : ∃ a, tx (Lib.cut (bl s) [46]).1 = a := ⟨_, rfl⟩
  obtain ⟨b, hb⟩ : ∃ b, tx (Lib.cut (bl s) [46]).2.1 = b := ⟨_, rfl⟩
  have hct2 : Calls Tryd.prog 40 #[.string s, .string ⟨#[46]⟩] w fun e w' => e = .returned (.tuple #[.string (tx (Lib.cut (bl s) [46]).1), .string (tx (Lib.cut (bl s) [46]).2.1), .bool (Lib.cut (bl s) [46]).2.2]) ∧ ∃ n, w' = w.drewN n := hct
  rw [ha, hb] at hct2
  have hsp : splitV s = if (Lib.cut (bl s) [46]).2.2 = false then (E0, E0, 12) else if ¬ rightE a = 0 then (E0, E0, rightE a) else if ¬ rightE b = 0 then (E0, E0, rightE b) else (a, b, 0) := by
    unfold splitV; rw [ha, hb]
  have hsa : a.size ≤ 9223372036854775807 := by rw [← ha, tx_size]; omega
  have hsb : b.size ≤ 9223372036854775807 := by rw [← hb, tx_size]; omega
  generalize (Lib.cut (bl s) [46]).2.2 = fd at hct2 hsp
  clear hct hsz ha hb hw hm
  cases fd with
  | false =>
    rw [if_pos rfl] at hsp
    have HSP := hid hsp
    clear hsp
    unfold E0 at HSP
    go_enter Tryd.func20, Tryd.ntmps20
    go_wp2_with fail
    refine hct2.mono ?_
    rintro e w1 ⟨rfl, n, rfl⟩
    go_wp2
    go_ret3
    exact ⟨by rw [HSP.out]; rfl, pw_below_drewN (Below.refl _ _) _⟩
  | true =>
    rw [if_neg (by simp)] at hsp
    have HSP := hid hsp
    clear hsp
    go_enter Tryd.func20, Tryd.ntmps20
    go_wp2_with fail
    refine hct2.mono ?_
    rintro e w1 ⟨rfl, n, rfl⟩
    have hb1 := pw_below_drewN (Below.refl w.heap.size w) n
    have hs1 : (w.drewN n).heap.size = w.heap.size := Nat.le_antisymm (by simp [World.drewN]) (by simp [World.drewN])
    generalize w.drewN n = w1 at hb1 hs1 ⊢
    have hx2 := heap_alloc_new w1 (.cells #[.string a, .string b] 9)
    have hb2 : Below w.heap.size w (w1.alloc (.cells #[.string a, .string b] 9)) := hb1.trans (below_alloc (Below.refl _ _) _ |> fun h => h.mono (by omega))
    clear hb1 hct2 hs1
    go_wp2_with fail
    generalize w1.alloc (.cells #[.string a, .string b] 9) = w2 at hx2 hb2 ⊢
    go_loopw [23] (fun i wr => ∃ k : Nat, k ≤ 2 ∧ i = .int .i64 k ∧ (1 ≤ k → rightE a = 0) ∧ (2 ≤ k → rightE b = 0) ∧ wr.heap[w1.heap.size]? = some (.cells #[.string a, .string b] 9 (0, 0)) ∧ Below w.heap.size w wr) (fun i _ => 2 - (intOf i).toNat)
    case atStart => exact ⟨0, by omega, rfl, by omega, by omega, hx2, hb2⟩
    case round =>
      obtain ⟨k, hk, rfl, h1, h2, hx, hB⟩ := hrel
      clear hx2 hb2
      have hBs := hB.size
      by_cases hlt : k < 2
      · have hltI : (k : Int) < 2 := by omega
        obtain ⟨x, hxe⟩ : ∃ x, x = if k = 0 then a else b := ⟨_, rfl⟩
        have hcx : wr.cell? ⟨w1.heap.size, k, none⟩ = some (.string x) := by
          rw [cell_of_row _ _ k _ _ _ hx, hxe]
          obtain rfl | rfl : k = 0 ∨ k = 1 := by omega
          · rfl
          · rfl
        have hsx : x.size ≤ 9223372036854775807 := by rw [hxe]; split <;> assumption
        have hrx := fun W => right_any (w := W) x hsx
        have HH := hid (And.intro hxe (And.intro h1 h2))
        clear hxe h1 h2 hsx
        by_cases hr0 : rightE x = 0
        · rw [hr0] at hrx
          have HRX := hid hrx
          have HR0 := hid hr0
          clear hrx hr0
          go_wp2_with fail
          refine (HRX.out _).mono ?_
          rintro e w3 ⟨rfl, b3⟩
          have hx3 := (b3.block _ (blk_lt hx)).trans hx
          have hB3 := below_step hB b3
          clear hx hB hcx b3 HRX
          go_wp2_with fail
          go_roundw
          case rel =>
            obtain ⟨hxe, h1, h2⟩ := HH.out
            refine ⟨k + 1, by omega, by go_num, fun _ => ?_, fun h => ?_, hx3, hB3⟩
            · by_cases hk0 : k = 0
              · rw [if_pos hk0] at hxe; rw [← hxe]; exact HR0.out
              · exact h1 (by omega)
            · rw [if_neg (by omega)] at hxe; rw [← hxe]; exact HR0.out
          case measure => simp [intOf]; omega
        · have hne : (rightE x != 0) = true := by simpa using hr0
          have hsv : splitV s = (E0, E0, rightE x) := by
            rw [HSP.out]
            obtain ⟨hxe, h1, h2⟩ := HH.out
            by_cases hk0 : k = 0
            · rw [if_pos hk0] at hxe; rw [← hxe, if_pos hr0]
            · rw [if_neg hk0] at hxe; rw [← hxe, if_neg (fun h => h (h1 (by omega))), if_pos hr0]
          unfold E0 at hsv
          have HSV := hid hsv
          have HRX := hid hrx
          clear hrx hsv hr0
          generalize rightE x = rx at hne HSV HRX
          go_wp2_with fail
          refine (HRX.out _).mono ?_
          rintro e w3 ⟨rfl, b3⟩
          have hB3 := below_step hB b3
          clear hx hB hcx b3 HRX
          go_wp2_with fail
          go_ret3
          exact ⟨by rw [HSV.out]; rfl, hB3⟩
      · have hltI : ¬ (k : Int) < 2 := by omega
        have hsv : splitV s = (a, b, 0) := by rw [HSP.out, if_neg (fun h => h (h1 (by omega))), if_neg (fun h => h (h2 (by omega)))]
        have HSV := hid hsv
        clear hsv h1 h2 hx
        go_wp2
        go_ret3
        exact ⟨by rw [HSV.out]; rfl, hB⟩
end Go.Proofs.YthfoafjjenegaaaDoor
