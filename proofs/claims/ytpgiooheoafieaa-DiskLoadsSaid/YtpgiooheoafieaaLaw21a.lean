/- Package foundrylaw21: Block. -/
import Derived.Test.YtpgiooheoafieaaDiskC
set_option linter.unusedVariables false
set_option linter.unusedSimpArgs false
namespace Go.Proofs.Ytpgiooheoafieaa
open Go.RowKit Go.Proofs.YtpgiooheoafieaaW.PrintWords

theorem make_bytes (m : Nat) (hn : m ≤ 281474976710656) : ∀ W : World, (Instr.makeSlice 29 (.int .i64 (m : Int)) (.int .i64 (m : Int))).run Try.prog W = .ok (.slice (some ⟨W.heap.size, 0, none⟩) m m) (W.alloc (.cells (madeCells #[.int .u8 0] m) 5)) :=
  print_make 29 5 .u8 1 Try.underlying29 info_u8 (by decide) m (by omega)

theorem block_of_add' (a : Addr) (n : Nat) : (a.add n).block = a.block := by unfold Addr.add; split <;> rfl
/-- The bytes that an Op writes. -/
def opBlock (fill : Int) (bytes : List Int) (odd : Bool) : List Int := if odd = true then bytes else bytes.take 64 ++ List.replicate (64 - bytes.length) fill
theorem opBlock_B {fill : Int} {bytes : List Int} (odd : Bool) (hf : 0 ≤ fill ∧ fill < 256) (hb : Bytes bytes) : Bytes (opBlock fill bytes odd) := by
  unfold opBlock
  split
  · exact hb
  · refine (hb.take 64).append (fun x hx => ?_)
    rw [List.eq_of_mem_replicate hx]; exact hf
theorem opBlock_len (fill : Int) (bytes : List Int) : (opBlock fill bytes false).length = 64 := by
  simp only [opBlock, Bool.false_eq_true, if_false, List.length_append, List.length_take, List.length_replicate]; omega
theorem set_fill {T : List Int} {k n : Nat} (hk : k < n) (hT : T.length = n) (x : Int) (hx : T.getD k 0 = x) : (T.take k ++ List.replicate (n - k) 0).set k x = T.take (k + 1) ++ List.replicate (n - (k + 1)) 0 := by
  subst hx
  have h1 : (T.take k).length = k := by rw [List.length_take]; omega
  have h2 : n - k = (n - (k + 1)) + 1 := by omega
  rw [List.set_append_right _ _ (by omega), h1, Nat.sub_self, h2, List.replicate_succ, List.set_cons_zero, List.take_succ_eq_append_getElem (by omega), List.append_assoc]
  have h3 : T.getD k 0 = T[k] := by simp [List.getD_eq_getElem?_getD, hT, hk]
  rw [h3]
  rfl
set_option maxRecDepth 100000 in
set_option maxHeartbeats 1000000 in
theorem block_any {w : World} {A : Option Addr} {c : Nat} {kind at_ n fill : Int} {bytes : List Int} (odd : Bool) (hC : KB.C w A bytes.length bytes) (hlb : bytes.length ≤ 140737488351232) :
  Calls Try.prog 21 #[.agg #[.int .i64 kind, .int .i64 at_, .int .i64 n, .int .u8 fill, .slice A bytes.length c, .bool odd]] w fun e w' => ∃ A' c', e = .returned (.slice A' (opBlock fill bytes odd).length c') ∧
    KB.R 5 w' w.heap.size (fun q => w.heap.size ≤ q) (.slice A' (opBlock fill bytes odd).length c') (opBlock fill bytes odd) ∧ Below w.heap.size w w' := by
  have hmk : ∀ W : World, (Instr.makeSlice 29 (.int .i64 64) (.int .i64 64)).run Try.prog W = .ok (.slice (some ⟨W.heap.size, 0, none⟩) 64 64) (W.alloc (.cells (madeCells #[.int .u8 0] 64) 5)) := make_bytes 64 (by omega)
  obtain ⟨T, hT⟩ : ∃ T, T = opBlock fill bytes false := ⟨_, rfl⟩
  have hTl : T.length = 64 := by rw [hT]; exact opBlock_len _ _
  have hget1 : ∀ k, k < bytes.length → k < 64 → T.getD k 0 = rd bytes k := by
    intro k h1 h2
    rw [hT]
    simp only [opBlock, Bool.false_eq_true, if_false, rd, Int.toNat_natCast]
    rw [List.getD_eq_getElem?_getD, List.getElem?_append_left (by simp; omega), List.getElem?_take, if_pos h2, List.getD_eq_getElem?_getD]
  have hget2 : ∀ k, bytes.length ≤ k → k < 64 → T.getD k 0 = fill := by
    intro k h1 h2
    rw [hT]
    simp only [opBlock, Bool.false_eq_true, if_false]
    rw [List.getD_eq_getElem?_getD, List.getElem?_append_right (by simp; omega), List.getElem?_replicate]
    rw [if_pos (by simp; omega)]
    rfl
  have HT := hid hT
  have HTl := hid hTl
  clear hT hTl
  go_enter Try.func21, Try.ntmps21
  go_wp2
  go_loopw [4] (fun i wr => ∃ k : Nat, k ≤ 64 ∧ i = .int .i64 k ∧ wr.ownsRow w.heap.size 5 1 (.slice (some ⟨w.heap.size + 1, 0, none⟩) 64 64) 64 (nums .u8 (T.take k ++ List.replicate (64 - k) 0)) ∧ Below (w.heap.size + 1) (w.alloc (.cells #[.int .i64 kind, .int .i64 at_, .int .i64 n, .int .u8 fill, .slice A bytes.length c, .bool odd] 31)) wr) (fun i _ => 64 - (intOf i).toNat)
  case atStart =>
    refine ⟨0, by omega, rfl, ?_, ?_⟩
    · have h := own_made (w.alloc (.cells #[.int .i64 kind, .int .i64 at_, .int .i64 n, .int .u8 fill, .slice A bytes.length c, .bool odd] 31)) w.heap.size 5 .u8 64 (by simp) (by omega)
      simpa using h
    · exact (Below.refl _ _).alloc (by simp) _
  case round =>
    obtain ⟨k, hk, rfl, ho, hB⟩ := hrel
    have f3 : wr.cell? ⟨w.heap.size, 3, none⟩ = some (.int .u8 fill) := (hB.cell (by simp)).trans (by go_simp)
    have f4 : wr.cell? ⟨w.heap.size, 4, none⟩ = some (.slice A bytes.length c) := (hB.cell (by simp)).trans (by go_simp)
    have f5 : wr.cell? ⟨w.heap.size, 5, none⟩ = some (.bool odd) := (hB.cell (by simp)).trans (by go_simp)
    by_cases hlt : k < 64
    · obtain ⟨hc, hz⟩ := own_at ho (k : Int) (by omega) (by omega)
      simp only [Int.toNat_natCast] at hc hz
      obtain ⟨ho1, hg1⟩ := own_store ho (k : Int) fill
      simp only [Int.toNat_natCast] at ho1 hg1
      by_cases hb : k < bytes.length
      · obtain ⟨ad, rfl, hcell⟩ := (C_int hC).at_ (k : Int) (by omega) (by omega)
        simp only [Int.toNat_natCast] at hcell
        obtain ⟨ho2, hg2⟩ := own_store ho1 (k : Int) (rd bytes k)
        simp only [Int.toNat_natCast] at ho2 hg2
        rw [List.set_set, set_fill hlt HTl.out _ (hget1 k hb hlt)] at ho2
        have hcw : wr.cell? (ad.add k) = some (.int .u8 (rd bytes k)) := (hB.cell (by have := World.block_lt_of_cell? w _ hcell; omega)).trans ((World.cell?_alloc_lt w _ _ (World.block_lt_of_cell? w _ hcell)).trans hcell)
        have hne : ad.block ≠ w.heap.size + 1 := by have := World.block_lt_of_cell? w _ hcell; rw [block_of_add'] at this; omega
        have hcw2 : (wr.setCell ⟨w.heap.size + 1, k, none⟩ (.int .u8 fill)).cell? (ad.add k) = some (.int .u8 (rd bytes k)) := by
          rw [World.cell?_setCell_other _ _ _ _ (fun e => hne (by have := congrArg Addr.block e; rw [block_of_add'] at this; exact this.symm))]
          exact hcw
        have hB2 := (hB.setCell (p := ⟨w.heap.size + 1, k, none⟩) (Nat.le_refl _) (.int .u8 fill)).setCell (p := ⟨w.heap.size + 1, k, none⟩) (Nat.le_refl _) (.int .u8 (rd bytes k))
        clear hget1 hget2 ho ho1 hg1 hg2
        go_wp2
        go_roundw
        case rel => exact ⟨k + 1, by omega, by go_num, ho2, hB2⟩
        case measure => simp [intOf]; omega
      · rw [set_fill hlt HTl.out _ (hget2 k (by omega) hlt)] at ho1
        have hB2 := hB.setCell (p := ⟨w.heap.size + 1, k, none⟩) (Nat.le_refl _) (.int .u8 fill)
        clear hget1 hget2 ho hg1
        go_wp2
        go_roundw
        case rel => exact ⟨k + 1, by omega, by go_num, ho1, hB2⟩
        case measure => simp [intOf]; omega
    · obtain rfl : k = 64 := by omega
      rw [List.take_of_length_le (by rw [HTl.out]; omega), Nat.sub_self, List.replicate_zero, List.append_nil] at ho
      have hR : KB.R 5 wr w.heap.size (fun q => w.heap.size ≤ q) (.slice (some ⟨w.heap.size + 1, 0, none⟩) 64 64) T := Rown (by rw [HTl.out]; exact ho) (fun q hq => by rw [← ob_eq hq]; omega)
      have hBw : Below w.heap.size w wr := (below_alloc (Below.refl _ _) _).trans (hB.mono (by omega))
      have hCr : KB.C wr A bytes.length bytes := Kd.C_below hC hBw
      clear ho hget1 hget2 hC
      cases odd with
      | false =>
        go_wp2
        go_ret
        rw [← HT.out, HTl.out]
        exact ⟨_, _, rfl, hR, hBw⟩
      | true =>
        clear hR
        have hsz := hBw.size
        have hszz : w.heap.size < wr.heap.size := by have := hB.size; simp at this; omega
        go_wp2_with (at_builtin; refine print_append_row (w0 := wr) w.heap.size rfl (.tmp 32) (.tmp 34) 29 5 .u8 1 rfl Try.underlying29 info_u8 (by decide) _ [] bytes A bytes.length c rfl rfl ?HO ?HR ?HB ?hb ?hl ?_)
        case HO => exact World.ownsRow_made (base := w.heap.size) wr #[] 0 hsz (Nat.zero_le _) rfl
        case HR => exact (C_int hCr).below (below_alloc (Below.refl _ _) _)
        case HB => exact below_alloc (Below.refl _ _) _ |>.mono hsz
        case hb => simp; omega
        case hl => simp; omega
        intro v1 w1 ho hb hg hat
        have hR1 : KB.R 5 w1 w.heap.size (fun q => w.heap.size ≤ q) v1 bytes := Rown (by simpa using ho) (fun q hq => own_base ho q hq)
        obtain ⟨A', c', rfl⟩ := Kd.R_slice hR1
        have hB1 := hBw.trans hb
        clear ho
        go_wp2
        go_ret
        exact ⟨A', c', rfl, hR1, hB1⟩
end Go.Proofs.Ytpgiooheoafieaa
