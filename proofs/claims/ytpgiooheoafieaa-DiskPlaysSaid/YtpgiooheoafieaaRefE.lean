/- The document's disk: bad, Cut, On, Forget, New, Read. -/
import Derived.Test.YtpgiooheoafieaaRefD
set_option linter.unusedVariables false
set_option linter.unusedSimpArgs false
namespace Go.Proofs.Ytpgiooheoafieaa
open Go.RowKit Go.Proofs.YtpgiooheoafieaaW.PrintWords

theorem bad_any {w : World} {ok : Nat → Prop} {p : Nat} {D : DM} (h : RDisk w ok p D) (i : Int) :
  Calls Try.prog 96 #[.pointer (some ⟨p, 0, none⟩), .int .i64 i] w fun e w' => e = .returned (.int .i64 (D.ready i)) ∧ w = w' := by
  have hbl := rblocks_any h
  obtain ⟨hwf, g, cap, wv, hb⟩ := h
  have c1 := hb.cell1
  have hgone : D.gone = D.gone := rfl
  unfold DM.ready
  have hh := hwf.hi
  generalize D.gone = gone at c1 ⊢
  cases gone with
  | true =>
    go_enter Try.func96, Try.ntmps96
    go_wp2
    go_ret
    exact ⟨rfl, rfl⟩
  | false =>
    rw [if_neg (by decide)]
    by_cases h0 : i < 0
    · rw [if_pos (.inl h0)]
      go_enter Try.func96, Try.ntmps96
      go_wp2
      go_ret
      exact ⟨rfl, rfl⟩
    · by_cases h1 : (D.n : Int) ≤ i
      · rw [if_pos (.inr h1)]
        go_enter Try.func96, Try.ntmps96
        go_wp2_with (go_at_call 80; refine hbl.mono ?_; rintro e w' ⟨rfl, rfl⟩)
        go_ret
        exact ⟨rfl, rfl⟩
      · rw [if_neg (by omega)]
        go_enter Try.func96, Try.ntmps96
        go_wp2_with (go_at_call 80; refine hbl.mono ?_; rintro e w' ⟨rfl, rfl⟩)
        go_ret
        exact ⟨rfl, rfl⟩
theorem rcut_any {w : World} {ok : Nat → Prop} {p : Nat} {D : DM} (n : Int) (h : RDisk w ok p D) (h1 : n ≤ 9223372036854775807) :
  Calls Try.prog 69 #[.pointer (some ⟨p, 0, none⟩), .int .i64 n] w fun e w' => e = .returned (.tuple #[]) ∧ RDisk w' ok p (D.cut n) ∧ Chg ok w w' := by
  obtain ⟨hwf, g, cap, wv, hb⟩ := h
  have c2 := hb.cell2
  have z2 := hb.free 2
  have hwf' : (D.cut n).wf := ⟨hwf.len, hwf.lo, hwf.hi, by simp only [DM.cut]; split <;> omega, by simp only [DM.cut]; split <;> omega, hwf.bytes, hwf.wsB⟩
  by_cases h0 : n < 0
  · have hfin : RDisk ((w.setCell ⟨p, 2, none⟩ (.int .i64 n)).setCell ⟨p, 2, none⟩ (.int .i64 (-1))) ok p (D.cut n) ∧ Chg ok w ((w.setCell ⟨p, 2, none⟩ (.int .i64 n)).setCell ⟨p, 2, none⟩ (.int .i64 (-1))) := by
      refine ⟨⟨hwf', g, cap, wv, ?_⟩, ((Chg.refl ok w).setCell (.inl hb.okp) _).setCell (.inl hb.okp) _⟩
      have e : D.cut n = { { D with left := n } with left := -1 } := by
        simp only [DM.cut]
        congr 1
        split <;> omega
      rw [e]
      exact (hb.setLeft n).setLeft (-1)
    have HF := hid hfin
    clear hfin
    go_enter Try.func69, Try.ntmps69
    go_wp2
    go_end0
    exact ⟨rfl, HF.out⟩
  · have hfin : RDisk (w.setCell ⟨p, 2, none⟩ (.int .i64 n)) ok p (D.cut n) ∧ Chg ok w (w.setCell ⟨p, 2, none⟩ (.int .i64 n)) := by
      refine ⟨⟨hwf', g, cap, wv, ?_⟩, (Chg.refl ok w).setCell (.inl hb.okp) _⟩
      have e : D.cut n = { D with left := n } := by
        simp only [DM.cut]
        congr 1
        split <;> omega
      rw [e]
      exact hb.setLeft n
    have HF := hid hfin
    clear hfin
    go_enter Try.func69, Try.ntmps69
    go_wp2
    go_end0
    exact ⟨rfl, HF.out⟩
theorem ron_any {w : World} {ok : Nat → Prop} {p : Nat} {D : DM} (h : RDisk w ok p D) :
  Calls Try.prog 70 #[.pointer (some ⟨p, 0, none⟩)] w fun e w' => e = .returned (.tuple #[]) ∧ RDisk w' ok p { D with left := -1, gone := false } ∧ Chg ok w w' := by
  obtain ⟨hwf, g, cap, wv, hb⟩ := h
  have c1 := hb.cell1
  have c2 := hb.cell2
  have z1 := hb.free 1
  have z2 := hb.free 2
  have hfin : RDisk ((w.setCell ⟨p, 1, none⟩ (.bool false)).setCell ⟨p, 2, none⟩ (.int .i64 (-1))) ok p { D with left := -1, gone := false } ∧ Chg ok w ((w.setCell ⟨p, 1, none⟩ (.bool false)).setCell ⟨p, 2, none⟩ (.int .i64 (-1))) :=
    ⟨⟨⟨hwf.len, hwf.lo, hwf.hi, by simp, by simp, hwf.bytes, hwf.wsB⟩, g, cap, wv, (hb.setGone false).setLeft (-1)⟩, ((Chg.refl ok w).setCell (.inl hb.okp) _).setCell (.inl hb.okp) _⟩
  have HF := hid hfin
  clear hfin
  go_enter Try.func70, Try.ntmps70
  go_wp2
  go_end0
  exact ⟨rfl, HF.out⟩
theorem rforget_any {w : World} {ok : Nat → Prop} {p : Nat} {D : DM} (h : RDisk w ok p D) :
  Calls Try.prog 76 #[.pointer (some ⟨p, 0, none⟩)] w fun e w' => e = .returned (.tuple #[]) ∧ RDisk w' ok p { D with ws := [] } ∧ Chg ok w w' := by
  obtain ⟨hwf, g, cap, wv, hb⟩ := h
  have c3 := hb.cell3
  have z3 := hb.free 3
  have hfin : RDisk (w.setCell ⟨p, 3, none⟩ (.slice none 0 0)) ok p { D with ws := [] } ∧ Chg ok w (w.setCell ⟨p, 3, none⟩ (.slice none 0 0)) :=
    ⟨⟨⟨hwf.len, hwf.lo, hwf.hi, hwf.l1, hwf.l2, hwf.bytes, fun x hx => by simp at hx⟩, g, cap, _, RDb.close hb.okp hb.okg hb.blk hb.row (Kd.R_nil _ _ _ _ _)⟩, (Chg.refl ok w).setCell (.inl hb.okp) _⟩
  have HF := hid hfin
  clear hfin
  go_enter Try.func76, Try.ntmps76
  go_wp2
  go_end0
  exact ⟨rfl, HF.out⟩
theorem rnew_err {w : World} (n : Int) (h : n < 16 ∨ 4096 < n) : Calls Try.prog 27 #[.int .i64 n] w fun e w' => e = .returned (.tuple #[.pointer none, .int .i64 1]) ∧ w = w' := by
  rcases h with h | h
  · go_enter Try.func27, Try.ntmps27
    go_wp2
    go_ret2
    exact ⟨rfl, rfl⟩
  · go_enter Try.func27, Try.ntmps27
    go_wp2
    go_ret2
    exact ⟨rfl, rfl⟩
set_option maxRecDepth 100000 in
theorem rnew_ok {w : World} (n : Nat) (h1 : 16 ≤ n) (h2 : n ≤ 4096) : Calls Try.prog 27 #[.int .i64 n] w fun e w' =>
    e = .returned (.tuple #[.pointer (some ⟨w.heap.size + 1, 0, none⟩), .int .i64 0]) ∧ RDisk w' (fun k => w.heap.size ≤ k) (w.heap.size + 1) (DM.new n) ∧ Below w.heap.size w w' := by
  have hmk : ∀ W : World, (Instr.makeSlice 29 (.int .i64 (64 * (n : Int))) (.int .i64 (64 * (n : Int)))).run Try.prog W = .ok (.slice (some ⟨W.heap.size, 0, none⟩) (64 * n) (64 * n)) (W.alloc (.cells (madeCells #[.int .u8 0] (64 * n)) 5)) := by
    intro W
    have := make_bytes (64 * n) (by omega) W
    push_cast at this
    exact this
  have hb : (DM.new n).b.length = 64 * n := by simp [DM.new]
  have hfin : RDisk ((w.alloc (.cells (madeCells #[.int .u8 0] (64 * n)) 5)).alloc (.cells #[.slice (some ⟨w.heap.size, 0, none⟩) (64 * n) (64 * n), .bool false, .int .i64 (-1), .slice none 0 0] 87)) (fun k => w.heap.size ≤ k) (w.heap.size + 1) (DM.new n) := by
    refine ⟨new_wf h1 h2, w.heap.size, 64 * n, .slice none 0 0, ?_⟩
    refine ⟨by simp, by simp, ?_, ?_, ?_⟩
    · rw [hb]
      exact heap_alloc2_new w (.cells (madeCells #[.int .u8 0] (64 * n)) 5) (.cells #[.slice (some ⟨w.heap.size, 0, none⟩) (64 * n) (64 * n), .bool false, .int .i64 (-1), .slice none 0 0] 87)
    · rw [hb]
      have h3 := own_made w 0 5 .u8 (64 * n) (by simp) (by omega)
      exact own_alloc h3 (.cells #[.slice (some ⟨w.heap.size, 0, none⟩) (64 * n) (64 * n), .bool false, .int .i64 (-1), .slice none 0 0] 87)
    · exact Kd.R_nil _ _ _ _ _
  have HF := hid hfin
  clear hfin hb
  go_enter Try.func27, Try.ntmps27
  go_wp2
  go_ret2
  exact ⟨rfl, HF.out, below_alloc (below_alloc (Below.refl _ _) _) _⟩
theorem rread_err {w : World} {ok : Nat → Prop} {p : Nat} {D : DM} (i : Int) (h : RDisk w ok p D) (hr : ¬ D.ready i = 0) :
  Calls Try.prog 74 #[.pointer (some ⟨p, 0, none⟩), .int .i64 i] w fun e w' => e = .returned (.tuple #[.slice none 0 0, .int .i64 (D.ready i)]) ∧ w = w' := by
  have hready := bad_any h i
  have hr2 : (D.ready i != 0) = true := by simp [hr]
  clear hr
  go_enter Try.func74, Try.ntmps74
  go_wp2_with (go_at_call 96; refine hready.mono ?_; rintro e w' ⟨rfl, rfl⟩)
  go_ret2
  exact ⟨rfl, rfl⟩
/-- A part of a row of numbers that is read. -/
theorem reads_drop {w : World} {k : IntKind} {g : Nat} {xs : List Int} {base cap n : Nat} {t : Nat} (h : w.ownsRow base t 1 (.slice (some ⟨g, 0, none⟩) n cap) n (nums k xs)) (off m : Nat) (hl : off + m ≤ xs.length) (hm : m ≤ 9223372036854775807) :
    ReadsInt w k (some ⟨g, off, none⟩) m ((xs.drop off).take m) := by
  refine ⟨by rw [List.length_take, List.length_drop]; omega, hm, fun _ => ⟨_, rfl, fun j hj => ?_⟩⟩
  rw [Addr.add_mid]
  apply own_rangeAt h off m j
  simp [nums, List.getD_eq_getElem?_getD, List.getElem?_take, hj]
  rw [List.getElem?_eq_getElem (by omega)]
  rfl
set_option maxRecDepth 100000 in
theorem rread_ok {w : World} {ok : Nat → Prop} {p : Nat} {D : DM} (i : Nat) (h : RDisk w ok p D) (hr : D.ready i = 0) (hi : i < D.n) :
  Calls Try.prog 74 #[.pointer (some ⟨p, 0, none⟩), .int .i64 i] w fun e w' => ∃ A c, e = .returned (.tuple #[.slice A 64 c, .int .i64 0]) ∧ KB.R 5 w' w.heap.size (fun k => w.heap.size ≤ k) (.slice A 64 c) (D.blk i) ∧ Below w.heap.size w w' := by
  have hready := bad_any h i
  rw [hr] at hready
  obtain ⟨hwf, g, cap, wv, hb⟩ := h
  have c0 := hb.cell0
  have hl := blk_length hwf hi
  have h1 := hwf.len
  have h2 := hwf.hi
  have hread : ReadsInt w .u8 (some ⟨g, 64 * i, none⟩) 64 (D.blk i) := by
    have := reads_drop hb.row (64 * i) 64 (by omega) (by omega)
    rwa [DM.blk, Nat.mul_comm i 64]
  have hof := own_form hb.row
  have HL := hid hl
  have ca0 : (w.alloc (.cells #[] 5)).cell? ⟨p, 0, none⟩ = some (.slice (some ⟨g, 0, none⟩) D.b.length cap) := (World.cell?_alloc_lt w _ _ (World.block_lt_of_cell? w _ c0)).trans c0
  have hof1 := hof.1
  have hof2 : cap ≤ 9223372036854775807 := Nat.le_trans hof.2 (by decide)
  clear hr hl hof
  go_enter Try.func74, Try.ntmps74
  go_wp2_with (first | (go_at_call 96; refine hready.mono ?_; rintro e w' ⟨rfl, rfl⟩) | (at_builtin; refine print_append_row (w0 := w) w.heap.size rfl (.tmp 13) (.tmp 23) 29 5 .u8 1 rfl Try.underlying29 info_u8 (by decide) _ [] (D.blk i) (some ⟨g, 64 * i, none⟩) (64 * i + 64 - 64 * i) (cap - 64 * i) rfl rfl ?HO ?HR ?HB ?hb ?hl ?_))
  case HO => exact World.ownsRow_made (base := w.heap.size) w #[] 0 (Nat.le_refl _) (Nat.zero_le _) rfl
  case HR => rw [show 64 * i + 64 - 64 * i = 64 by omega]; exact hread.below (below_alloc (Below.refl _ _) _)
  case HB => exact below_alloc (Below.refl _ _) _
  case hb => simp
  case hl => simp
  intro v1 w1 ho hb1 hg hat
  have hR1 : KB.R 5 w1 w.heap.size (fun q => w.heap.size ≤ q) v1 (D.blk i) := Rown (by simpa using ho) (fun q hq => own_base ho q hq)
  obtain ⟨A', c', hv⟩ := Kd.R_slice hR1
  rw [HL.out] at hv
  subst hv
  clear ho
  go_wp2
  go_ret2
  exact ⟨A', c', rfl, hR1, hb1⟩
end Go.Proofs.Ytpgiooheoafieaa
