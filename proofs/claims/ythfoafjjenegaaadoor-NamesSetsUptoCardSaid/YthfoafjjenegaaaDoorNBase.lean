/- Names: what is known of the library's variables; lists of texts in memory; slices.Clone, set. -/
import Derived.Test.YthfoafjjenegaaaDoorProg
import Derived.Test.YthfoafjjenegaaaDoorMem
import Derived.Test.YthfoafjjenegaaaDoorPlan
import Derived.Test.YthfoafjjenegaaaDoorShelf
import Derived.Test.YthfoafjjenegaaaDoorNSet
import Derived.Sort.OwnSorted
import Derived.Lib.LaidTab
import Derived.WalkKit
import Derived.WalkSpells
import Derived.WalkLawsBesides
set_option linter.unusedVariables false
set_option linter.unusedSimpArgs false
namespace Go.Proofs.YthfoafjjenegaaaDoor
open Go.RowKit Go.Sort Go.Proofs.YthfoafjjenegaaaDoorW.PrintWords

abbrev KS : Kd ByteArray := Kd.string
/-- The library's variables as the walks want them. -/
def NOK (w : World) : Prop := Lib.TabIs Tryd.prog w "strings.asciiSpace" .u8 Lib.asciiSpaceTab ∧ ∃ m, w.cell? ⟨2, 0, none⟩ = some (.int .i64 m)
theorem NOK.below {w w' : World} (h : NOK w) (hb : Below w.heap.size w w') : NOK w' := by
  obtain ⟨h1, m, h2⟩ := h
  refine ⟨?_, m, pw_cell_below hb h2⟩
  have hgn : Tryd.prog.globalNamed "strings.asciiSpace" = some 0 := by kernel_rfl
  unfold Lib.TabIs World.var? at h1 ⊢
  rw [hgn] at h1 ⊢
  simp only [Option.bind_some] at h1 ⊢
  have hlt : 0 < w.heap.size := by
    rcases Nat.lt_or_ge 0 w.heap.size with h' | h'
    · exact h'
    · rw [Array.getElem?_eq_none h'] at h1; cases h1
  rw [hb.block 0 hlt]
  exact h1
theorem info_str : (Tryd.prog.info? 9).map (fun i => (i.zero, i.size, i.bytes)) = some (some (.string ⟨#[]⟩), 1, 16) := by kernel_rfl
theorem KS_none {w : World} {xs : List ByteArray} (h : KS.C w none xs.length xs) : xs = [] := by
  obtain ⟨_, _, h3⟩ := h
  cases xs with
  | nil => rfl
  | cons x xs =>
    obtain ⟨ad, e, _⟩ := h3 (by simp)
    cases e
/-- A text of a row that is read. -/
theorem KS_at {w : World} {ad : Addr} {n : Nat} {l : List ByteArray} (h : KS.C w (some ad) n l) {i : Nat} (hi : i < l.length) : w.cell? (ad.add i) = some (.string l[i]) := by
  have hn : l.length = n := h.1
  obtain ⟨ad', cs, hA, hcs, hK, hcell⟩ := Kd.C_get h ByteArray.empty (i : Int) (by omega) (by omega)
  injection hA with hA
  subst hA
  simp only [Int.toNat_natCast] at hK hcell
  have hget : l.getD i ByteArray.empty = l[i] := by simp [List.getD_eq_getElem?_getD, hi]
  rw [hget] at hK
  have h3 : cs = [.string l[i]] := hK
  subst h3
  have := hcell 0 _ rfl
  have hsz : Kd.string.sz = 1 := rfl
  rw [hsz, Nat.mul_one] at this
  simpa using this
set_option maxRecDepth 100000 in
theorem clone_some {w : World} {a : Addr} {c : Nat} {l : List ByteArray} (h : KS.C w (some a) l.length l) (hl : l.length * 16 ≤ 140737488355328) :
  Calls Tryd.prog 43 #[.slice (some a) l.length c] w fun e w' => ∃ v, e = .returned v ∧ KS.R 9 w' w.heap.size (fun _ => True) v l ∧ Below w.heap.size w w' := by
  have hq := fun w => Lib.run_eql_slice_nil (P := Tryd.prog) w 22 9 (some a) l.length c 0 0 Tryd.underlying22
  go_enter Tryd.func43, Tryd.ntmps43
  go_wp2_with (at_builtin; refine Kd.R_append_rows KS (w0 := w) w.heap.size rfl (.tmp 5) (.tmp 6) 22 9 (.string ⟨#[]⟩) 16 rfl Tryd.underlying22 info_str rfl (by decide) (by decide) _ [] l (some a) l.length c (fun _ => True) (fun _ => False) rfl rfl ?HO ?HR (fun _ _ h => h) (fun _ h => h.elim) (fun _ _ => trivial) ?HB ?hb ?hl ?_)
  case HO => exact Kd.R_of_own (World.ownsRow_made (base := w.heap.size) w #[] 0 (Nat.le_refl _) (Nat.zero_le _) rfl) (fun _ _ => trivial)
  case HR => exact Kd.C_below h (below_alloc (Below.refl _ _) _)
  case HB => exact below_alloc (Below.refl _ _) _
  case hb => simp
  case hl => simp; omega
  intro v1 w1 hR hb hg hat
  go_wp2
  go_ret
  exact ⟨v1, rfl, by simpa using hR, hb⟩
set_option maxRecDepth 100000 in
theorem clone_none {w : World} {n c : Nat} :
  Calls Tryd.prog 43 #[.slice none n c] w fun e w' => e = .returned (.slice none 0 0) ∧ w = w' := by
  have hq := fun w => Lib.run_eql_slice_nil (P := Tryd.prog) w 22 9 none n c 0 0 Tryd.underlying22
  go_enter Tryd.func43, Tryd.ntmps43
  go_wp2
  go_ret
  exact ⟨rfl, rfl⟩
theorem KS_own {w : World} {base : Nat} {v : Value} {l : List ByteArray} (h : KS.R 9 w base (fun _ => True) v l) : ∃ A' c', v = .slice A' l.length c' ∧ KS.R 9 w base (fun k => base ≤ k) v l := by
  obtain ⟨A', c', he⟩ := Kd.R_slice h
  exact ⟨A', c', he, Kd.R_mono (Kd.R_bound h) (fun k hk => hk.2.1)⟩
theorem clone_any {w : World} {A : Option Addr} {c : Nat} {l : List ByteArray} (h : KS.C w A l.length l) (hl : l.length * 16 ≤ 140737488355328) :
  Calls Tryd.prog 43 #[.slice A l.length c] w fun e w' => ∃ A' c', e = .returned (.slice A' l.length c') ∧ KS.R 9 w' w.heap.size (fun k => w.heap.size ≤ k) (.slice A' l.length c') l ∧ Below w.heap.size w w' := by
  cases A with
  | none =>
    obtain rfl := KS_none h
    refine clone_none.mono ?_
    rintro e w' ⟨rfl, rfl⟩
    exact ⟨none, 0, rfl, Kd.R_nil _ _ _ _ _, Below.refl _ _⟩
  | some a =>
    refine (clone_some h hl).mono ?_
    rintro e w' ⟨v, rfl, hR, hb⟩
    obtain ⟨A', c', rfl, hR'⟩ := KS_own hR
    exact ⟨A', c', rfl, hR', hb⟩
theorem encs_tx (l : List BL) : encs Value.string (l.map tx) = l.map encStr := by unfold encs; rw [List.map_map]; rfl
theorem map_enc (l : List ByteArray) : l.map Value.string = (l.map bl).map encStr := by
  rw [List.map_map]
  refine List.map_congr_left (fun x _ => ?_)
  show Value.string x = Value.string (tx (bl x))
  rw [tx_bl]
set_option maxRecDepth 100000 in
theorem set_any {w : World} {A : Option Addr} {c : Nat} {l : List ByteArray} (h : KS.C w A l.length l) (hl : l.length * 16 ≤ 140737488355328) :
  Calls Tryd.prog 41 #[.slice A l.length c] w fun e w' => ∃ A' c', e = .returned (.slice A' (setS l).length c') ∧ KS.R 9 w' w.heap.size (fun k => w.heap.size ≤ k) (.slice A' (setS l).length c') (setS l) ∧ Below w.heap.size w w' := by
  have hcl := clone_any (c := c) h hl
  go_enter Tryd.func41, Tryd.ntmps41
  go_wp2_with fail
  refine hcl.mono ?_
  rintro e w1 ⟨A1, c1, rfl, hR1, b1⟩
  clear hcl
  rcases Nat.eq_zero_or_pos l.length with h0 | h0
  · have hl0 : l = [] := List.eq_nil_of_length_eq_zero h0
    subst hl0
    have hs0 : setS [] = [] := setS_eq (by unfold Sorted; simp) (fun _ => Iff.rfl)
    have HS0 := hid hs0
    clear hs0
    simp only [List.length_nil] at hR1 ⊢
    go_wp2_with fail
    refine (Tryd.slices_Sort_string_none _ _ _).mono ?_
    rintro e w2 ⟨rfl, rfl⟩
    go_wp2_with fail
    refine (Tryd.slices_Compact_string_empty _ _ _).mono ?_
    rintro e w2 ⟨rfl, rfl⟩
    go_wp2
    go_ret
    exact ⟨A1, c1, by rw [HS0.out]; rfl, by rw [HS0.out]; exact hR1, b1⟩
  · have hown := Kd.own_of_R hR1
    rcases hown.2 with ⟨_, hz⟩ | ⟨g, cap, cur, hv, hbase, hb, e1, e2, e3, e4⟩
    · omega
    · injection hv with hv1 hv2 hv3
      subst hv1 hv3
      have hH : Holds encStr w1 g 0 (l.map bl).toArray := holds_of_block hb (by
        rw [List.length_map]
        have : encs Value.string l = (l.map bl).map encStr := map_enc l
        rw [← this]
        simpa using e4)
      have hst := Tryd.slices_Sort_string g 0 c1 (l.map bl) w1 hH (blk_lt hb) (by rw [List.length_map]; omega)
      rw [List.length_map] at hst
      have hml : ((l.map bl).mergeSort fun x y => decide (x ≤ y)).length = l.length := by simp
      have hset : setS l = (Lib.compact ((l.map bl).mergeSort fun x y => decide (x ≤ y))).map tx := rfl
      have hsl : (Lib.compact ((l.map bl).mergeSort fun x y => decide (x ≤ y))).length = (setS l).length := by rw [hset, List.length_map]
      have hle := setS_len l
      generalize ((l.map bl).mergeSort fun x y => decide (x ≤ y)) = ms at hst hml hset hsl
      have HS := hid (And.intro hset (And.intro hsl hml))
      clear hset hsl hH
      go_wp2_with fail
      refine hst.mono ?_
      rintro e w2 ⟨rfl, n, os, hw2⟩
      obtain ⟨hset, hsl, hml⟩ := HS.out
      have hg2 : w1.grownBy w2 (some g) := by rw [hw2]; exact grownBy_sorted _
      have ho2 : w2.ownsRow w.heap.size 9 1 (.slice (some ⟨g, 0, none⟩) l.length c1) l.length (ms.map encStr) := by
        rw [hw2]
        have := ownsRow_sorted (n := n) (os := os) (ss := l.map bl) (ts := ms) (by rw [hml, List.length_map]) hbase hb (by rw [List.length_map]; exact e1) e2 (by simpa using e3)
        rw [List.length_map] at this
        exact this
      rcases ho2.2 with ⟨h1, _⟩ | ⟨g', cap', cur2, hv', hbase2, hb2, f1, f2, f3, f4⟩
      · cases h1
      · injection hv' with hv1 hv2 hv3
        injection hv1 with hv1
        injection hv1 with hv1
        subst hv1 hv3
        have hH2 : Holds encStr w2 g 0 ms.toArray := holds_of_block hb2 (by rw [hml]; simpa using f4)
        have hcm := Tryd.slices_Compact_string g 0 c1 ms w2 hH2 (by rw [hml]; omega) (by rw [hml]; exact f1)
        rw [hml, hsl] at hcm
        clear hst hw2 hH2 HS
        have HS := hid (And.intro hset (And.intro hsl hml))
        clear hset hsl hml
        go_wp2_with fail
        refine hcm.mono ?_
        rintro e w3 ⟨rfl, q, hw3⟩
        obtain ⟨hset, hsl, hml⟩ := HS.out
        have hlen : (Lib.compact ms ++ List.replicate (l.length - (setS l).length) ([] : BL)).length = l.length := by rw [List.length_append, hsl, List.length_replicate]; omega
        have hw3' : w3 = grow (putRow encStr (Sort.ahead w2 q) g 0 (Lib.compact ms ++ List.replicate (l.length - (setS l).length) []).toArray) #[] := by rw [grow_empty]; exact hw3
        have hg3 : w2.grownBy w3 (some g) := by rw [hw3']; exact grownBy_sorted _
        have ho3 : w3.ownsRow w.heap.size 9 1 (.slice (some ⟨g, 0, none⟩) l.length c1) l.length ((Lib.compact ms ++ List.replicate (l.length - (setS l).length) []).map encStr) := by
          rw [hw3']
          have := ownsRow_sorted (n := q) (os := #[]) (ss := l.map bl) (ts := Lib.compact ms ++ List.replicate (l.length - (setS l).length) []) (by rw [hlen, List.length_map]) hbase hb2 (by rw [List.length_map]; exact f1) f2 (by simpa using f3)
          rw [List.length_map] at this
          exact this
        have hR3 : KS.R 9 w3 w.heap.size (fun k => w.heap.size ≤ k) (.slice (some ⟨g, 0, none⟩) l.length c1) ((Lib.compact ms ++ List.replicate (l.length - (setS l).length) []).map tx) :=
          Kd.R_of_own (by rw [encs_tx, List.length_map, hlen]; exact ho3) (fun k hk => by
            have : g = k := by simpa [Value.ownBlock] using hk
            omega)
        have hR4 := Kd.R_take (m := (setS l).length) hR3 (by rw [List.length_map, hlen]; exact hle)
        have htk : ((Lib.compact ms ++ List.replicate (l.length - (setS l).length) ([] : BL)).map tx).take (setS l).length = setS l := by
          rw [hset, ← List.map_take, List.length_map, List.take_left]
        rw [htk] at hR4
        have hB3 : Below w.heap.size w w3 := (b1.grown hg2 b1.size (fun k hk => by cases hk; exact hbase)).grown hg3 (Nat.le_trans b1.size hg2.size) (fun k hk => by cases hk; exact hbase)
        have HF := hid (And.intro hR4 hB3)
        clear hR4 hB3 hR3 ho3 hg3 hw3 hw3' hcm hlen htk hb2 ho2 f1 f2 f3 f4 hg2 hb e1 e2 e3 e4 hown hR1 b1 hset hsl hml HS hle
        go_wp2
        go_ret
        exact ⟨_, _, rfl, HF.out⟩
end Go.Proofs.YthfoafjjenegaaaDoor
