/- The program's reader (package wire): what its memory says; Error, Left, number, next. -/
import Derived.Test.YtiecljhgpbifjaaWireB
import Derived.WalkSmall
set_option linter.unusedVariables false
set_option linter.unusedSimpArgs false
namespace Go.Proofs.Ytiecljhgpbifjaa
open Go.RowKit Go.Proofs.YtiecljhgpbifjaaW.PrintWords

/-! ### A part of a row that is read -/
theorem RB_take {w : World} {ok : Nat → Prop} {A : Option Addr} {xs : List Int} (h : RB w ok A xs) {n : Nat} (hn : n ≤ xs.length) : RB w ok A (xs.take n) := by
  intro W' hW
  have hl : (xs.take n).length = n := by rw [List.length_take]; omega
  have h2 : ReadsInt W' .u8 A xs.length xs := C_int (h W' hW)
  refine Kd.C_of_reads (enc := Value.int .u8) (d := (0 : Int)) (h1 := fun _ => rfl) ⟨rfl, ?_, ?_⟩
  · rw [hl]; exact Nat.le_trans hn h2.2.1
  · intro hp
    rw [hl] at hp
    obtain ⟨ad, he, hc⟩ := h2.2.2 (by omega)
    refine ⟨ad, he, fun j hj => ?_⟩
    rw [hl] at hj
    rw [hc j (by omega)]
    simp [List.getD_eq_getElem?_getD, List.getElem?_take, hj]
/-- Where a row goes on behind n of its cells (a capacity of c). -/
def behind (A : Option Addr) (n c : Nat) : Option Addr := if c = n then A else A.map (·.add n)
theorem RB_drop {w : World} {ok : Nat → Prop} {A : Option Addr} {xs : List Int} {c : Nat} (h : RB w ok A xs) {n : Nat} (hn : n ≤ xs.length) (hc : xs.length ≤ c) : RB w ok (behind A n c) (xs.drop n) := by
  intro W' hW
  have hl : (xs.drop n).length = xs.length - n := by rw [List.length_drop]
  have h2 : ReadsInt W' .u8 A xs.length xs := C_int (h W' hW)
  refine Kd.C_of_reads (enc := Value.int .u8) (d := (0 : Int)) (h1 := fun _ => rfl) ⟨rfl, ?_, ?_⟩
  · rw [hl]; exact Nat.le_trans (Nat.sub_le _ _) h2.2.1
  · intro hp
    rw [hl] at hp
    obtain ⟨ad, rfl, hcl⟩ := h2.2.2 (by omega)
    refine ⟨ad.add n, by unfold behind; rw [if_neg (by omega)]; rfl, fun j hj => ?_⟩
    rw [hl] at hj
    rw [Addr.add_add, hcl (n + j) (by omega)]
    simp [List.getD_eq_getElem?_getD, List.getElem?_drop]

/-! ### A number of bytes, the highest first -/
def val (b : List Int) : Int := b.foldl (fun n x => n * 256 + x) 0
theorem val_snoc (b : List Int) (x : Int) : val (b ++ [x]) = val b * 256 + x := by simp [val]
theorem val_lt {b : List Int} (h : Bytes b) : 0 ≤ val b ∧ val b < 256 ^ b.length := by
  suffices ∀ (n : Nat), n ≤ b.length → 0 ≤ val (b.take n) ∧ val (b.take n) < 256 ^ n by
    have := this b.length (Nat.le_refl _); rwa [List.take_length] at this
  intro n
  induction n with
  | zero => intro _; simp [val]
  | succ n ih =>
    intro hn
    have h1 := ih (by omega)
    have hx := h b[n] (List.getElem_mem (by omega))
    rw [← List.take_append_getElem (by omega : n < b.length), val_snoc, Int.pow_succ]
    omega
theorem val_le8 {b : List Int} (h : Bytes b) (hl : b.length ≤ 8) : val b < 18446744073709551616 := by
  have h1 := (val_lt h).2
  have h2 : (256 : Nat) ^ b.length ≤ 256 ^ 8 := Nat.pow_le_pow_right (by decide) hl
  have h3 : (256 : Nat) ^ 8 = 18446744073709551616 := by decide
  rw [h3] at h2
  have h4 : (256 : Int) ^ b.length = ((256 ^ b.length : Nat) : Int) := by rw [Int.natCast_pow]; rfl
  omega
theorem wrap_u64_mod (m : Int) : IntKind.u64.wrap m = m % 18446744073709551616 := by simp [IntKind.wrap, IntKind.bits, IntKind.signed]
set_option maxRecDepth 100000 in
theorem or_byte {n x : Int} (h0 : 0 ≤ n) (h1 : n * 256 + x < 18446744073709551616) (hx0 : 0 ≤ x) (hx : x < 256) : bits .or .u64 (n * 256) x = n * 256 + x :=
  bits_join .u64 64 (by decide) (fun m h0 h1 => by
    have : IntKind.u64.wrap m = m % 18446744073709551616 := wrap_u64_mod m
    rw [this]; exact Int.emod_eq_of_lt h0 (by have : (2 : Int) ^ 64 = 18446744073709551616 := by decide
                                              omega)) 8 (n * 256) x (by omega) (by omega) (by omega) hx0 (by omega) (by omega)

set_option maxRecDepth 100000 in
theorem value_any {w : World} {A : Option Addr} {c : Nat} {b : List Int} (h : KB.C w A b.length b) (hb : Bytes b) (hl : b.length ≤ 8) :
  Calls Try.prog 64 #[.slice A b.length c] w fun e w' => e = .returned (.int .u64 (val b)) ∧ w' = w := by
  go_enter Try.func64, Try.ntmps64
  go_wp2_with fail
  go_loopw [3, 8] (fun v i wr => wr = w ∧ ∃ k : Nat, k ≤ b.length ∧ i = .int .i64 k ∧ v = .int .u64 (val (b.take k))) (fun _ i _ => b.length - (intOf i).toNat)
  case atStart => exact ⟨rfl, 0, Nat.zero_le _, rfl, by simp [val]⟩
  case round =>
    obtain ⟨rfl, k, hk, rfl, rfl⟩ := hrel
    by_cases hlt : k < b.length
    · obtain ⟨ad, rfl, hcell⟩ := (C_int h).at_ (k : Int) (by omega) (by omega)
      simp only [Int.toNat_natCast] at hcell
      have hlw : (k : Int) < (b.length : Int) := by omega
      have hrd : rd b k = b[k] := by simp [rd, List.getD_eq_getElem?_getD, hlt]
      rw [hrd] at hcell
      have hx := hb b[k] (List.getElem_mem hlt)
      have hv0 := val_lt (hb.take k)
      have hv := val_le8 (hb.take (k + 1)) (by rw [List.length_take]; omega)
      rw [← List.take_append_getElem hlt, val_snoc] at hv
      have hor := or_byte hv0.1 hv hx.1 hx.2
      have hw1 : IntKind.u64.wrap (val (b.take k) * 256) = val (b.take k) * 256 := by rw [wrap_u64_mod]; exact Int.emod_eq_of_lt (by omega) (by omega)
      go_wp2
      go_roundw
      case rel => exact ⟨trivial, k + 1, by omega, by go_num, by rw [← List.take_append_getElem hlt, val_snoc]⟩
      case measure => simp [intOf]; omega
    · obtain rfl : k = b.length := by omega
      rw [List.take_length]
      go_wp2
      go_ret
      exact ⟨rfl, rfl⟩

/-! ### The reader -/
/-- A reader: p its block; b the bytes that are left (a row that is read, in ok), e its error. -/
structure PRd (w : World) (ok : Nat → Prop) (p : Nat) (b : List Int) (e : Int) : Prop where
  okp : ok p
  bytes : Bytes b
  cells : ∃ A c, w.heap[p]? = some (.cells #[.slice A b.length c, .int .i64 e] 68 (0, 0)) ∧ RB w (fun k => ok k ∧ k ≠ p) A b ∧ b.length ≤ c ∧ c ≤ 9223372036854775807
theorem PRd.step {w w1 : World} {ok : Nat → Prop} {p : Nat} {b : List Int} {e : Int} (h : PRd w ok p b e) (hm : ∀ k, ok k → k < w.heap.size → w1.heap[k]? = w.heap[k]?) : PRd w1 ok p b e := by
  obtain ⟨hp, hB, A, c, hb, hr, h1, h2⟩ := h
  exact ⟨hp, hB, A, c, (hm p hp (blk_lt hb)).trans hb, Kd.F_step hr (fun k hk => hm k hk.1), h1, h2⟩
theorem PRd.below {w w1 : World} {ok : Nat → Prop} {p : Nat} {b : List Int} {e : Int} (h : PRd w ok p b e) (hm : Below w.heap.size w w1) : PRd w1 ok p b e := h.step (fun k _ hk => hm.block k hk)
theorem PRd.mono {w : World} {ok ok' : Nat → Prop} {p : Nat} {b : List Int} {e : Int} (h : PRd w ok p b e) (hs : ∀ k, ok k → ok' k) : PRd w ok' p b e := by
  obtain ⟨hp, hB, A, c, hb, hr, h1, h2⟩ := h
  exact ⟨hs _ hp, hB, A, c, hb, Kd.F_mono hr (fun k hk => ⟨hs k hk.1, hk.2⟩), h1, h2⟩
theorem PRd.lt {w : World} {ok : Nat → Prop} {p : Nat} {b : List Int} {e : Int} (h : PRd w ok p b e) : p < w.heap.size := by
  obtain ⟨hp, hB, A, c, hb, hr, h1, h2⟩ := h
  exact blk_lt hb
theorem PRd.len {w : World} {ok : Nat → Prop} {p : Nat} {b : List Int} {e : Int} (h : PRd w ok p b e) : b.length ≤ 9223372036854775807 := by
  obtain ⟨hp, hB, A, c, hb, hr, h1, h2⟩ := h
  exact Nat.le_trans h1 h2
/-- A cell of the reader is written. -/
theorem PRd.put {w : World} {ok : Nat → Prop} {p : Nat} {b : List Int} {e : Int} (h : PRd w ok p b e) (x : Int) : PRd (w.setCell ⟨p, 1, none⟩ (.int .i64 x)) ok p b x := by
  obtain ⟨hp, hB, A, c, hb, hr, h1, h2⟩ := h
  exact ⟨hp, hB, A, c, heap_setCell_same w p 1 _ _ _ hb, Kd.F_step hr (fun k hk _ => Below.heap_setCell w ⟨p, 1, none⟩ _ k hk.2), h1, h2⟩
theorem error_any {w : World} {ok : Nat → Prop} {p : Nat} {b : List Int} {x : Int} (h : PRd w ok p b x) :
  Calls Try.prog 18 #[.pointer (some ⟨p, 0, none⟩)] w fun e w' => e = .returned (.int .i64 x) ∧ w = w' := by
  obtain ⟨hp, hB, A, c, hb, hr, h1, h2⟩ := h
  have c1 := cell_of_row w p 1 _ _ _ hb
  simp at c1
  clear hb
  go_enter Try.func18, Try.ntmps18
  go_wp2
  go_ret
  exact ⟨rfl, rfl⟩
theorem error_nil {w : World} : Calls Try.prog 18 #[.pointer none] w fun e w' => e = .returned (.int .i64 2) ∧ w = w' := by
  go_enter Try.func18, Try.ntmps18
  go_wp2
  go_ret
  exact ⟨rfl, rfl⟩

/-- What a reader gives up with. -/
def gives (x : Int) : List PanicEntry := [{ v := .iface 81 (.int .i64 x), recovered := false }]
theorem next_none {w : World} {ok : Nat → Prop} {p : Nat} {b : List Int} {x : Int} {n : Nat} (h : PRd w ok p b x) (hn : b.length < n) :
  Calls Try.prog 65 #[.pointer (some ⟨p, 0, none⟩), .int .i64 n] w fun e w' => e = .panicked (gives 40) ∧ w' = w := by
  obtain ⟨hp, hB, A, c, hb, hr, h1, h2⟩ := h
  have c0 := cell_of_row w p 0 _ _ _ hb
  simp at c0
  clear hb
  have hlt : (b.length : Int) < (n : Int) := by omega
  go_enter Try.func65, Try.ntmps65
  go_wp2
  exact ⟨rfl, rfl, rfl⟩
theorem next_some {w : World} {ok : Nat → Prop} {p : Nat} {b : List Int} {x : Int} {n : Nat} (h : PRd w ok p b x) (hn : n ≤ b.length) :
  Calls Try.prog 65 #[.pointer (some ⟨p, 0, none⟩), .int .i64 n] w fun e w' => ∃ A c, e = .returned (.slice A n c) ∧ RB w' (fun k => ok k ∧ k ≠ p) A (b.take n) ∧ PRd w' ok p (b.drop n) x ∧ n ≤ c ∧ Chg (fun k => k = p) w w' := by
  obtain ⟨hp, hB, A, c, hb, hr, h1, h2⟩ := h
  have c0 := cell_of_row w p 0 _ _ _ hb
  have hf := frozen_of_row w p 0 _ _ hb
  simp at c0
  have hlt : ¬ (b.length : Int) < (n : Int) := by omega
  have hd : b.length - n = (b.drop n).length := by rw [List.length_drop]
  have fin : ∀ B, B = behind A n c → RB (w.setCell ⟨p, 0, none⟩ (.slice B (b.length - n) (c - n))) (fun k => ok k ∧ k ≠ p) A (b.take n) ∧ PRd (w.setCell ⟨p, 0, none⟩ (.slice B (b.length - n) (c - n))) ok p (b.drop n) x ∧ n ≤ c ∧ Chg (fun k => k = p) w (w.setCell ⟨p, 0, none⟩ (.slice B (b.length - n) (c - n))) := by
    rintro B rfl
    have hst : ∀ k, (ok k ∧ k ≠ p) → k < w.heap.size → (w.setCell ⟨p, 0, none⟩ (.slice (behind A n c) (b.length - n) (c - n))).heap[k]? = w.heap[k]? := fun k hk _ => Below.heap_setCell w ⟨p, 0, none⟩ _ k hk.2
    refine ⟨Kd.F_step (RB_take hr hn) hst, ⟨hp, hB.drop n, behind A n c, c - n, ?_, Kd.F_step (RB_drop hr hn h1) hst, by rw [List.length_drop]; omega, by omega⟩, by omega, Chg.setCell (S := fun k => k = p) (p := ⟨p, 0, none⟩) (Chg.refl _ w) (.inl rfl) _⟩
    rw [← hd]
    exact heap_setCell_same w p 0 _ _ _ hb
  clear hd
  by_cases hcn : c = n
  · subst hcn
    have f := fin A (by unfold behind; rw [if_pos rfl])
    rw [Nat.sub_self, show b.length - c = 0 from by omega] at f
    go_enter Try.func65, Try.ntmps65
    go_wp2
    go_ret
    exact ⟨_, _, rfl, f⟩
  · have f := fin (A.map (·.add n)) (by unfold behind; rw [if_neg hcn])
    go_enter Try.func65, Try.ntmps65
    go_wp2
    go_ret
    exact ⟨_, _, rfl, f⟩
end Go.Proofs.Ytiecljhgpbifjaa
