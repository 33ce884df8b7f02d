/- The program's disk: the small methods, New, Read. -/
import Derived.Test.YtekhmkfiepnnkaaDiskW
import Derived.Deep.WholeRow
set_option linter.unusedVariables false
set_option linter.unusedSimpArgs false
namespace Go.Proofs.Ytekhmkfiepnnkaa
open Go.RowKit Go.Proofs.YtekhmkfiepnnkaaW.PrintWords Go.Proofs.YtekhmkfiepnnkaaW.PrintMore
attribute [local go_sem] max2_int min2_int max_two min_two

/-! ### Write, whatever the disk says -/
theorem write_err {w : World} {ok : Nat → Prop} {p : Nat} {D : DM} {A : Option Addr} {n c : Nat} (i : Int) (h : PDisk w ok p D) (hr : ¬ D.ready i = 0) :
  Calls Try.prog 63 #[.pointer (some ⟨p, 0, none⟩), .int .i64 i, .slice A n c] w fun e w' => e = .returned (.int .i64 (D.ready i)) ∧ w = w' := by
  have hready := ready_any h i
  have hr2 : (D.ready i != 0) = true := by simp [hr]
  clear hr
  go_enter Try.func63, Try.ntmps63
  go_wp2_with (go_at_call 74; refine hready.mono ?_; rintro e w' ⟨rfl, rfl⟩)
  go_ret
  exact ⟨rfl, rfl⟩
theorem write_len {w : World} {ok : Nat → Prop} {p : Nat} {D : DM} {A : Option Addr} {n c : Nat} (i : Int) (h : PDisk w ok p D) (hr : D.ready i = 0) (hn : ¬ n = 64) :
  Calls Try.prog 63 #[.pointer (some ⟨p, 0, none⟩), .int .i64 i, .slice A n c] w fun e w' => e = .returned (.int .i64 1) ∧ w = w' := by
  have hready := ready_any h i
  rw [hr] at hready
  have hx3 : ((n : Int) != 64) = true := by simp; omega
  clear hr
  go_enter Try.func63, Try.ntmps63
  go_wp2_with (go_at_call 74; refine hready.mono ?_; rintro e w' ⟨rfl, rfl⟩)
  go_ret
  exact ⟨rfl, rfl⟩
theorem write_gone {w : World} {ok : Nat → Prop} {p : Nat} {D : DM} {A : Option Addr} {c : Nat} (i : Int) (h : PDisk w ok p D) (hr : D.ready i = 0) (hl : D.left = 0) :
  Calls Try.prog 63 #[.pointer (some ⟨p, 0, none⟩), .int .i64 i, .slice A 64 c] w fun e w' => e = .returned (.int .i64 61) ∧ w' = w.setCell ⟨p, 2, none⟩ (.bool true) := by
  have hready := ready_any h i
  rw [hr] at hready
  obtain ⟨hwf, g, cap, wv, hb⟩ := h
  have c1 := hb.cell1
  have c2 := hb.cell2
  have z2 := hb.free 2
  rw [hl] at c1
  clear hr hl
  go_enter Try.func63, Try.ntmps63
  go_wp2_with (go_at_call 74; refine hready.mono ?_; rintro e w' ⟨rfl, rfl⟩)
  go_ret
  exact ⟨rfl, rfl⟩
/-- Write: what it answers, and what the disk is behind it. -/
theorem write_any {w : World} {ok okb : Nat → Prop} {p : Nat} {D : DM} {A : Option Addr} {c : Nat} {xs : List Int} (i : Int) (h : PDisk w ok p D) (hF : RB w okb A xs) (hne : apart okb ok) (hB : Bytes xs)
    (hm : (D.ws.length + 1) * 32 ≤ 140737488355328) :
  Calls Try.prog 63 #[.pointer (some ⟨p, 0, none⟩), .int .i64 i, .slice A xs.length c] w fun e w' => e = .returned (.int .i64 (D.writeE i xs)) ∧ PDisk w' (orNew ok w) p (D.writeD i xs) ∧ Chg ok w w' := by
  by_cases hr : D.ready i = 0
  · by_cases hx : xs.length = 64
    · by_cases hl : D.left = 0
      · have e1 : D.writeE i xs = 61 := by unfold DM.writeE; rw [if_neg (by rw [hr]; simp), if_neg (by rw [hx]; simp), if_pos hl]
        have e2 : D.writeD i xs = { D with gone := true } := by unfold DM.writeD; rw [if_neg (by rw [hr]; simp), if_neg (by rw [hx]; simp), if_pos hl]
        rw [e1, e2, hx]
        refine (write_gone i h hr hl).mono ?_
        rintro e w' ⟨rfl, rfl⟩
        obtain ⟨hwf, g, cap, wv, hb⟩ := h
        exact ⟨rfl, ⟨⟨hwf.len, hwf.lo, hwf.hi, hwf.l1, hwf.l2, hwf.bytes, hwf.wsB⟩, g, cap, wv, (hb.setGone true).mono (fun _ h => .inl h)⟩, (Chg.refl ok w).setCell (.inl hb.okp) _⟩
      · have hi : 0 ≤ i ∧ i < D.n := by
          simp only [DM.ready] at hr
          split at hr
          · simp at hr
          · split at hr
            · simp at hr
            · omega
        obtain ⟨j, rfl⟩ := Int.eq_ofNat_of_zero_le hi.1
        cases A with
        | none => rw [RB_none hF] at hx; simp at hx
        | some a =>
          have e1 : D.writeE j xs = 0 := by unfold DM.writeE; rw [if_neg (by rw [hr]; simp), if_neg (by rw [hx]; simp), if_neg hl]
          rw [e1]
          exact write_ok j h hF hne hr (by omega) hx hB hl hm
    · have e1 : D.writeE i xs = 1 := by unfold DM.writeE; rw [if_neg (by rw [hr]; simp), if_pos hx]
      have e2 : D.writeD i xs = D := by unfold DM.writeD; rw [if_neg (by rw [hr]; simp), if_pos hx]
      rw [e1, e2]
      refine (write_len i h hr hx).mono ?_
      rintro e w' ⟨rfl, rfl⟩
      exact ⟨rfl, h.mono (fun _ h => .inl h), Chg.refl ok w⟩
  · have e1 : D.writeE i xs = D.ready i := by unfold DM.writeE; rw [if_pos hr]
    have e2 : D.writeD i xs = D := by unfold DM.writeD; rw [if_pos hr]
    rw [e1, e2]
    refine (write_err i h hr).mono ?_
    rintro e w' ⟨rfl, rfl⟩
    exact ⟨rfl, h.mono (fun _ h => .inl h), Chg.refl ok w⟩

/-! ### Cut, On, Dead, Count, Blocks, Forget -/
def DM.cut (D : DM) (n : Int) : DM := { D with left := if n < -1 then -1 else n }
theorem cut_any {w : World} {ok : Nat → Prop} {p : Nat} {D : DM} (n : Int) (h : PDisk w ok p D) (h1 : n ≤ 9223372036854775807) :
  Calls Try.prog 37 #[.pointer (some ⟨p, 0, none⟩), .int .i64 n] w fun e w' => e = .returned (.tuple #[]) ∧ PDisk w' ok p (D.cut n) ∧ Chg ok w w' := by
  obtain ⟨hwf, g, cap, wv, hb⟩ := h
  have c1 := hb.cell1
  have z1 := hb.free 1
  have hfin : PDisk (w.setCell ⟨p, 1, none⟩ (.int .i64 (if n < -1 then -1 else n))) ok p (D.cut n) ∧ Chg ok w (w.setCell ⟨p, 1, none⟩ (.int .i64 (if n < -1 then -1 else n))) :=
    ⟨⟨⟨hwf.len, hwf.lo, hwf.hi, by simp only [DM.cut]; split <;> omega, by simp only [DM.cut]; split <;> omega, hwf.bytes, hwf.wsB⟩, g, cap, wv, hb.setLeft _⟩, (Chg.refl ok w).setCell (.inl hb.okp) _⟩
  have HF := hid hfin
  clear hfin
  go_enter Try.func37, Try.ntmps37
  go_wp2
  all_goals
    go_end0
    have hfin := HF.out
    first | (rw [if_pos (by omega)] at hfin; exact ⟨rfl, hfin⟩) | (rw [if_neg (by omega)] at hfin; exact ⟨rfl, hfin⟩)
theorem on_any {w : World} {ok : Nat → Prop} {p : Nat} {D : DM} (h : PDisk w ok p D) :
  Calls Try.prog 39 #[.pointer (some ⟨p, 0, none⟩)] w fun e w' => e = .returned (.tuple #[]) ∧ PDisk w' ok p { D with left := -1, gone := false } ∧ Chg ok w w' := by
  obtain ⟨hwf, g, cap, wv, hb⟩ := h
  have c1 := hb.cell1
  have c2 := hb.cell2
  have z1 := hb.free 1
  have z2 := hb.free 2
  have hfin : PDisk ((w.setCell ⟨p, 2, none⟩ (.bool false)).setCell ⟨p, 1, none⟩ (.int .i64 (-1))) ok p { D with left := -1, gone := false } ∧ Chg ok w ((w.setCell ⟨p, 2, none⟩ (.bool false)).setCell ⟨p, 1, none⟩ (.int .i64 (-1))) :=
    ⟨⟨⟨hwf.len, hwf.lo, hwf.hi, by simp, by simp, hwf.bytes, hwf.wsB⟩, g, cap, wv, (hb.setGone false).setLeft (-1)⟩, ((Chg.refl ok w).setCell (.inl hb.okp) _).setCell (.inl hb.okp) _⟩
  have HF := hid hfin
  clear hfin
  go_enter Try.func39, Try.ntmps39
  go_wp2
  go_end0
  exact ⟨rfl, HF.out⟩
theorem dead_any {w : World} {ok : Nat → Prop} {p : Nat} {D : DM} (h : PDisk w ok p D) :
  Calls Try.prog 76 #[.pointer (some ⟨p, 0, none⟩)] w fun e w' => e = .returned (.bool D.gone) ∧ w = w' := by
  obtain ⟨hwf, g, cap, wv, hb⟩ := h
  have c2 := hb.cell2
  go_enter Try.func76, Try.ntmps76
  go_wp2
  go_ret
  exact ⟨rfl, rfl⟩
theorem dead_nil {w : World} : Calls Try.prog 76 #[.pointer none] w fun e w' => e = .returned (.bool false) ∧ w = w' := by
  go_enter Try.func76, Try.ntmps76
  go_wp2
  go_ret
  exact ⟨rfl, rfl⟩
theorem count_any {w : World} {ok : Nat → Prop} {p : Nat} {D : DM} (h : PDisk w ok p D) :
  Calls Try.prog 48 #[.pointer (some ⟨p, 0, none⟩)] w fun e w' => e = .returned (.int .i64 D.ws.length) ∧ w = w' := by
  obtain ⟨hwf, g, cap, wv, hb⟩ := h
  obtain ⟨A, c, rfl⟩ := Kd.R_slice hb.ws
  have c3 := hb.cell3
  go_enter Try.func48, Try.ntmps48
  go_wp2
  go_ret
  exact ⟨rfl, rfl⟩
theorem blocks_any {w : World} {ok : Nat → Prop} {p : Nat} {D : DM} (h : PDisk w ok p D) :
  Calls Try.prog 65 #[.pointer (some ⟨p, 0, none⟩)] w fun e w' => e = .returned (.int .i64 D.n) ∧ w = w' := by
  obtain ⟨hwf, g, cap, wv, hb⟩ := h
  have c0 := hb.cell0
  go_enter Try.func65, Try.ntmps65
  go_wp2
  go_ret
  exact ⟨rfl, rfl⟩
theorem forget_any {w : World} {ok : Nat → Prop} {p : Nat} {D : DM} (h : PDisk w ok p D) :
  Calls Try.prog 36 #[.pointer (some ⟨p, 0, none⟩)] w fun e w' => e = .returned (.tuple #[]) ∧ PDisk w' ok p { D with ws := [] } ∧ Chg ok w w' := by
  obtain ⟨hwf, g, cap, wv, hb⟩ := h
  have c3 := hb.cell3
  have z3 := hb.free 3
  have hfin : PDisk (w.setCell ⟨p, 3, none⟩ (.slice none 0 0)) ok p { D with ws := [] } ∧ Chg ok w (w.setCell ⟨p, 3, none⟩ (.slice none 0 0)) :=
    ⟨⟨⟨hwf.len, hwf.lo, hwf.hi, hwf.l1, hwf.l2, hwf.bytes, fun x hx => by simp at hx⟩, g, cap, _, PDb.close hb.okp hb.okg hb.blk hb.row (Kd.R_nil _ _ _ _ _)⟩, (Chg.refl ok w).setCell (.inl hb.okp) _⟩
  have HF := hid hfin
  clear hfin
  go_enter Try.func36, Try.ntmps36
  go_wp2
  go_end0
  exact ⟨rfl, HF.out⟩

/-! ### New, Read -/
def DM.new (n : Nat) : DM := ⟨List.replicate (64 * n) 0, -1, false, []⟩
theorem new_n (n : Nat) : (DM.new n).n = n := by simp only [DM.new, DM.n, List.length_replicate]; omega
theorem new_wf {n : Nat} (h1 : 16 ≤ n) (h2 : n ≤ 4096) : (DM.new n).wf :=
  ⟨by rw [new_n]; simp [DM.new], by rw [new_n]; exact h1, by rw [new_n]; exact h2, by simp [DM.new], by simp [DM.new], Bytes.zeros _, fun x hx => by simp [DM.new] at hx⟩
theorem madeCells_rep (v : Value) (m n : Nat) (hm : 0 < m) : madeCells (List.replicate m v).toArray n = (List.replicate n v).toArray := by
  apply Array.ext
  · simp [madeCells]
  · intro j h1 h2
    have : j % m < m := Nat.mod_lt _ hm
    simp [madeCells, this]
def ZB (n : Nat) : Array Value := (nums .u8 (List.replicate (64 * n) 0)).toArray
set_option maxRecDepth 100000 in
theorem make_blocks (n : Nat) (h : n ≤ 4096) : ∀ W : World, (Instr.makeSlice 118 (.int .i64 (n : Int)) (.int .i64 (n : Int))).run Try.prog W = .ok (.slice (some ⟨W.heap.size, 0, none⟩) n n) (W.alloc (.cells (ZB n) 125)) := by
  intro W
  have hz : ∃ i, Try.prog.info? 125 = some i ∧ i.zero = some (.agg (List.replicate 64 (Value.int .u8 0)).toArray) ∧ i.size = 64 ∧ i.bytes = 64 := by
    have h0 : (Try.prog.info? 125).map (fun i => (i.zero, i.size, i.bytes)) = some (some (.agg (List.replicate 64 (Value.int .u8 0)).toArray), 64, 64) := by kernel_rfl
    obtain ⟨i, hi, he⟩ := Option.map_eq_some_iff.1 h0
    simp only [Prod.mk.injEq] at he
    exact ⟨i, hi, he.1, he.2.1, he.2.2⟩
  obtain ⟨i, hi, hz, hs, hb⟩ := hz
  have hr := run_make (P := Try.prog) W 118 125 i _ Try.underlying118 hi hz .i64 .i64 n n (by omega) (Int.le_refl _) (by rw [hb]; omega) (by omega)
  rw [hr]
  simp only [Int.toNat_natCast, hs]
  have : madeCells (Value.agg (List.replicate 64 (Value.int .u8 0)).toArray).cells (n * 64) = ZB n := by
    show madeCells (List.replicate 64 (Value.int .u8 0)).toArray (n * 64) = ZB n
    rw [madeCells_rep _ _ _ (by omega), ZB, nums, List.map_replicate, Nat.mul_comm]
  rw [this]
theorem new_err {w : World} (n : Int) (h : n < 16 ∨ 4096 < n) : Calls Try.prog 31 #[.int .i64 n] w fun e w' => e = .returned (.tuple #[.pointer none, .int .i64 1]) ∧ w = w' := by
  rcases h with h | h
  · go_enter Try.func31, Try.ntmps31
    go_wp2
    go_ret2
    exact ⟨rfl, rfl⟩
  · have h2 : ¬ n < 16 := by omega
    go_enter Try.func31, Try.ntmps31
    go_wp2
    go_ret2
    exact ⟨rfl, rfl⟩
set_option maxRecDepth 100000 in
theorem new_ok {w : World} (n : Nat) (h1 : 16 ≤ n) (h2 : n ≤ 4096) : Calls Try.prog 31 #[.int .i64 n] w fun e w' =>
    e = .returned (.tuple #[.pointer (some ⟨w.heap.size + 1, 0, none⟩), .int .i64 0]) ∧ PDisk w' (fun k => w.heap.size ≤ k) (w.heap.size + 1) (DM.new n) ∧ Below w.heap.size w w' := by
  have hmk := make_blocks n h2
  have hfin : PDisk ((w.alloc (.cells (ZB n) 125)).alloc (.cells #[.slice (some ⟨w.heap.size, 0, none⟩) n n, .int .i64 (-1), .bool false, .slice none 0 0] 120)) (fun k => w.heap.size ≤ k) (w.heap.size + 1) (DM.new n) := by
    refine ⟨new_wf h1 h2, w.heap.size, n, .slice none 0 0, ?_⟩
    refine ⟨by simp, by simp, ?_, ?_, ?_⟩
    · rw [new_n]
      have := heap_alloc2_new w (.cells (ZB n) 125) (.cells #[.slice (some ⟨w.heap.size, 0, none⟩) n n, .int .i64 (-1), .bool false, .slice none 0 0] 120)
      exact this
    · rw [new_n]
      have h3 := World.ownsRow_lit (base := 0) (e := 125) (size := 64) w (ZB n) n (Nat.zero_le _) (by simp [maxLen]; omega) (by simp [ZB, nums]; omega)
      have h4 := own_alloc h3 (.cells #[.slice (some ⟨w.heap.size, 0, none⟩) n n, .int .i64 (-1), .bool false, .slice none 0 0] 120)
      simpa [ZB, DM.new] using h4
    · exact Kd.R_nil _ _ _ _ _
  have HF := hid hfin
  clear hfin
  go_enter Try.func31, Try.ntmps31
  go_wp2
  go_ret2
  exact ⟨rfl, HF.out, below_alloc (below_alloc (Below.refl _ _) _) _⟩
/-- The bytes of block i. -/
def DM.blk (D : DM) (i : Nat) : List Int := (D.b.drop (i * 64)).take 64
theorem blk_length {D : DM} (h : D.wf) {i : Nat} (hi : i < D.n) : (D.blk i).length = 64 := by
  have := h.len
  simp only [DM.blk, List.length_take, List.length_drop]
  omega
theorem read_err {w : World} {ok : Nat → Prop} {p : Nat} {D : DM} (i : Int) (h : PDisk w ok p D) (hr : ¬ D.ready i = 0) :
  Calls Try.prog 35 #[.pointer (some ⟨p, 0, none⟩), .int .i64 i] w fun e w' => e = .returned (.tuple #[.slice none 0 0, .int .i64 (D.ready i)]) ∧ w = w' := by
  have hready := ready_any h i
  have hr2 : (D.ready i != 0) = true := by simp [hr]
  clear hr
  go_enter Try.func35, Try.ntmps35
  go_wp2_with (go_at_call 74; refine hready.mono ?_; rintro e w' ⟨rfl, rfl⟩)
  go_ret2
  exact ⟨rfl, rfl⟩
theorem storeCells64 {xs : List Int} (hl : xs.length = 64) : ∀ (W : World) (Z : Array Value), Z.size = 64 → (storeCells ⟨W.heap.size, 0, none⟩ (nums .u8 xs)).run Try.prog (W.alloc (.cells Z 125)) = .ok () (W.alloc (.cells (nums .u8 xs).toArray 125)) := by
  intro W Z hZ
  have := run_storeCells_new (P := Try.prog) W 125 Z (nums .u8 xs).toArray (by simp only [List.size_toArray, nums_length, hl]; exact info_block) (by simp [nums_length, hl, hZ]) (nums_one _ _)
  simpa using this
set_option maxRecDepth 100000 in
theorem read_ok {w : World} {ok : Nat → Prop} {p : Nat} {D : DM} (i : Nat) (h : PDisk w ok p D) (hr : D.ready i = 0) (hi : i < D.n) :
  Calls Try.prog 35 #[.pointer (some ⟨p, 0, none⟩), .int .i64 i] w fun e w' => e = .returned (.tuple #[.slice (some ⟨w.heap.size, 0, none⟩) 64 64, .int .i64 0]) ∧ w' = w.alloc (.cells (nums .u8 (D.blk i)).toArray 125) := by
  have hready := ready_any h i
  rw [hr] at hready
  obtain ⟨hwf, g, cap, wv, hb⟩ := h
  have c0 := hb.cell0
  have hl := blk_length hwf hi
  have hcells : ∀ j v, (nums .u8 (D.blk i))[j]? = some v → w.cell? ((⟨g, i * 64, none⟩ : Addr).add j) = some v := by
    intro j v hj
    rw [Addr.add_mid]
    have := own_rangeAt hb.row (i * 64) 64 j v
    apply this
    rw [← hj]
    simp only [DM.blk, nums, List.map_take, List.map_drop]
  clear hr
  have hl2 : (nums .u8 (D.blk i)).length = 64 := by rw [nums_length, hl]
  have hst := storeCells64 hl
  go_enter Try.func35, Try.ntmps35
  go_wp2_with (first | (go_at_call 74; refine hready.mono ?_; rintro e w' ⟨rfl, rfl⟩) | (refine wpList_load_addr rfl 125 (.tmp 19) rfl ⟨g, i * 64, none⟩ rfl (nums .u8 (D.blk i)) _ hcells Try.underlying125 rfl (by rw [nums_length, hl]; exact info_block) ?_))
  go_ret2
  exact ⟨rfl, rfl⟩
end Go.Proofs.Ytekhmkfiepnnkaa
