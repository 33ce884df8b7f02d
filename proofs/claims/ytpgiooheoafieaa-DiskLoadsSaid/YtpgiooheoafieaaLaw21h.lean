/- Package foundrylaw21: DiskLoads, the walk. -/
import Derived.Test.YtpgiooheoafieaaLaw21g
set_option linter.unusedVariables false
set_option linter.unusedSimpArgs false
namespace Go.Proofs.Ytpgiooheoafieaa
open Go.RowKit Go.Proofs.YtpgiooheoafieaaW.PrintWords

/-- A copy: append([]byte{}, b...). -/
def Fits (b : List Int) : Prop := b.length % 64 = 0 ∧ 16 ≤ b.length / 64 ∧ b.length / 64 ≤ 4096
set_option maxRecDepth 100000 in
set_option maxHeartbeats 4000000 in
theorem loads_out {w : World} {A A1 : Option Addr} {c c1 : Nat} {b : List Int} (o : OP) (hC : KB.C w A b.length b) (hl : b.length ≤ 140737488351232) (h : ¬ (b.length % 64 = 0 ∧ 16 ≤ b.length / 64 ∧ b.length / 64 ≤ 4096)) :
  Calls Try.prog 5 #[.slice A b.length c, opAgg o A1 c1] w fun e w' => e = .returned (.bool true) ∧ Below w.heap.size w w' := by
  have hB1 := below_alloc (Below.refl w.heap.size w) (opObj o A1 c1)
  have hs1 : (w.alloc (opObj o A1 c1)).heap.size = w.heap.size + 1 := by simp
  have hC1 := Kd.C_below hC hB1
  have H := hid h
  clear h
  go_enter Try.func5, Try.ntmps5
  go_wp2_with (at_builtin; refine print_append_row (w0 := w.alloc (opObj o A1 c1)) (w.heap.size + 1) rfl (.tmp 13) (.tmp 14) 29 5 .u8 1 rfl Try.underlying29 info_u8 (by decide) _ [] b A b.length c rfl rfl ?HO ?HR ?HB ?hb ?hl ?_)
  case HO => have h0 := World.ownsRow_made (e := 5) (size := 1) (base := w.heap.size + 1) (w.alloc (opObj o A1 c1)) #[] 0 (by simp) (Nat.zero_le _) rfl; rw [hs1] at h0; exact h0
  case HR => exact (C_int hC1).below (below_alloc (Below.refl _ _) _)
  case HB => exact (below_alloc (Below.refl _ _) _).mono (by simp)
  case hb => simp
  case hl => simp; omega
  intro v1 w2 ho hB2 hg hat
  have hR2 : KB.R 5 w2 (w.heap.size + 1) (fun q => w.heap.size + 1 ≤ q) v1 b := Rown (by simpa using ho) (fun q hq => own_base ho q hq)
  obtain ⟨A2, c2, rfl⟩ := Kd.R_slice hR2
  clear ho hg hat
  have t2 : Below w.heap.size w w2 := hB1.trans (hB2.mono (by omega))
  go_wp2_with fail
  refine (dload_err (by omega) H.out).mono ?_
  rintro e w3 ⟨rfl, rfl⟩
  go_wp2_with fail
  refine (rload_err (by omega) H.out).mono ?_
  rintro e w3 ⟨rfl, b3⟩
  go_wp2_with fail
  refine alive21.mono ?_
  rintro e w4 ⟨rfl, b4⟩
  have t4 : Below w.heap.size w w4 := t2.trans ((b3.trans (b4.mono b3.size)).mono t2.size)
  go_wp2
  go_ret
  exact ⟨rfl, t4⟩
set_option maxRecDepth 100000 in
set_option maxHeartbeats 4000000 in
theorem loads_in {w : World} {A1 : Option Addr} {a : Addr} {c c1 : Nat} {b : List Int} (o : OP) (n : Nat) (ho : o.ok) (hC : KB.C w (some a) b.length b) (hCo : KB.C w A1 o.bytes.length o.bytes) (hn : b.length = 64 * n) (h1 : 16 ≤ n) (h2 : n ≤ 4096) (hb : Bytes b) :
  Calls Try.prog 5 #[.slice (some a) b.length c, opAgg o A1 c1] w fun e w' => e = .returned (.bool true) ∧ Below w.heap.size w w' := by
  have hB1 := below_alloc (Below.refl w.heap.size w) (opObj o A1 c1)
  have hx := boxed_new w o A1 c1
  have hs1 : (w.alloc (opObj o A1 c1)).heap.size = w.heap.size + 1 := by simp
  have hC1 := Kd.C_below hC hB1
  have hl9 : b.length ≤ 262144 := by omega
  have HN := hid hn
  clear hn
  go_enter Try.func5, Try.ntmps5
  go_wp2_with (at_builtin; refine print_append_row (w0 := w.alloc (opObj o A1 c1)) (w.heap.size + 1) rfl (.tmp 13) (.tmp 14) 29 5 .u8 1 rfl Try.underlying29 info_u8 (by decide) _ [] b (some a) b.length c rfl rfl ?HO ?HR ?HB ?hb ?hl ?_)
  case HO => have h0 := World.ownsRow_made (e := 5) (size := 1) (base := w.heap.size + 1) (w.alloc (opObj o A1 c1)) #[] 0 (by simp) (Nat.zero_le _) rfl; rw [hs1] at h0; exact h0
  case HR => exact (C_int hC1).below (below_alloc (Below.refl _ _) _)
  case HB => exact (below_alloc (Below.refl _ _) _).mono (by simp)
  case hb => simp
  case hl => simp; omega
  intro v1 w2 hown hB2 hg hat
  have ho2 : w2.ownsRow (w.heap.size + 1) 5 1 v1 b.length (nums .u8 b) := by simpa using hown
  obtain ⟨g, cap, rfl, hg1, hg2⟩ := ho2.form (by have := HN.out; omega)
  have hof := own_form ho2
  have hR2 : KB.R 5 w2 (w.heap.size + 1) (fun q => w.heap.size + 1 ≤ q) (.slice (some ⟨g, 0, none⟩) b.length cap) b := Rown ho2 (fun q hq => own_base ho2 q hq)
  have hx2 := hx.below (by rw [hs1]; exact hB2)
  have s2 := hB2.size
  rw [hs1] at s2
  clear hown hg hat
  have t2 : Below w.heap.size w w2 := hB1.trans (hB2.mono (by omega))
  go_wp2_with fail
  have hC2 : KB.C w2 (some ⟨g, 0, none⟩) b.length b := Kd.F_now (R_RB hR2).2
  refine (dload_ok n hC2 HN.out h1 h2 hb hof.1 (Nat.le_trans hof.2 (by decide))).mono ?_
  rintro e w3 ⟨p, rfl, hd3, b3⟩
  have s3 := b3.size
  have t3 := t2.trans (b3.mono t2.size)
  have hx3 := hx2.below b3
  have ho3 := own_move ho2 (fun k hk => b3.block k (own_lt ho2 k hk))
  have hC3 := Kd.C_below hC t3
  go_wp2_with fail
  refine (rload_ok n hC3 HN.out h1 h2 hb).mono ?_
  rintro e w4 ⟨q, rfl, ht4, b4⟩
  have s4 := b4.size
  have t4 := t3.trans (b4.mono t3.size)
  have hx4 := hx3.below b4
  have ho4 := own_move ho3 (fun k hk => b4.block k (own_lt ho3 k hk))
  have hd4 := hd3.bound.step (w1 := w4) (fun k _ hk => b4.block k hk)
  go_wp2_with fail
  refine alive21.mono ?_
  rintro e w5 ⟨rfl, b5⟩
  have s5 := b5.size
  have t5 := t4.trans (b5.mono t4.size)
  have hx5 := hx4.below b5
  have ho5 := own_move ho4 (fun k hk => b5.block k (own_lt ho4 k hk))
  have hd5 := hd4.step (w1 := w5) (fun k _ hk => b5.block k hk)
  have ht5 := ht4.bound.step (w1 := w5) (fun k _ hk => b5.block k hk)
  go_wp2_with fail
  go_loopw [10] (fun j wr => ∃ k : Nat, k ≤ b.length ∧ j = .int .i64 k ∧ ∃ ys : List Int, ys.length = b.length ∧ wr.ownsRow (w.heap.size + 1) 5 1 (.slice (some ⟨g, 0, none⟩) b.length cap) b.length (nums .u8 ys) ∧ Chg (fun z => z = g) w5 wr) (fun j _ => b.length - (intOf j).toNat)
  case atStart => exact ⟨0, Nat.zero_le _, rfl, _, rfl, ho5, Chg.refl _ _⟩
  case round =>
    obtain ⟨k, hk, rfl, ys, hys, hor, hcr⟩ := hrel
    by_cases hlt : k < b.length
    · obtain ⟨hc, hz⟩ := own_at hor (k : Int) (by omega) (by omega)
      simp only [Int.toNat_natCast] at hc hz
      have hlw : (k : Int) < (b.length : Int) := by omega
      go_wp2
      go_roundw
      case rel =>
        have h2 := (own_store hor (k : Int) ((rd ys k + 1) % 256)).1
        simp only [Int.toNat_natCast] at h2
        exact ⟨k + 1, by omega, by go_num, _, by rw [List.length_set]; exact hys, h2, hcr.setCell (p := ⟨g, k, none⟩) (.inl rfl) _⟩
      case measure => simp [intOf]; omega
    · have s6 := hcr.size
      have hx6 := hx5.step hcr (fun e => by omega)
      have hd6 := hd5.step (w1 := wr) (fun k hk hlt => hcr.block k hlt (fun e => by have := own_lt ho2 g rfl; omega))
      have ht6 := ht5.step (w1 := wr) (fun k hk hlt => hcr.block k hlt (fun e => by have := own_lt ho2 g rfl; omega))
      have hbo : Both w.heap.size wr p q (DM.load b) := ⟨_, _, hd6, ht6, fun k h1 h2 => by omega, fun k hk => by omega, fun k hk => by omega⟩
      have t6 : Below w.heap.size w wr := t5.trans (hcr.below_ (B := w.heap.size) (by omega) (fun z hz => by omega))
      have HX := hid hx6.all
      clear hd3 hd4 hd5 hd6 ht4 ht5 ht6 hx hx2 hx3 hx4 hx5 hx6 ho2 ho3 ho4 ho5 hor hR2 hC1 hC2 hC3
      go_wp2_with fail
      refine (hbo.same (by simp [DM.load])).mono ?_
      rintro e w7 ⟨rfl, b7⟩
      have hbo7 := hbo.below b7
      have t7 := t6.trans (b7.mono t6.size)
      have HX7 : Hid (∀ j v, (o.cells A1 c1)[j]? = some v → w7.cell? ((⟨w.heap.size, 0, none⟩ : Addr).add j) = some v) := hid (fun j v hj => pw_cell_below b7 (HX.out j v hj))
      go_wp2_with (refine wpList_load_addr rfl 31 (.tmp 3) rfl ⟨w.heap.size, 0, none⟩ rfl [.int .i64 o.kind, .int .i64 o.at_, .int .i64 o.n, .int .u8 o.fill, .slice A1 o.bytes.length c1, .bool o.odd] _ HX7.out Try.underlying31 rfl (by kernel_rfl) ?_)
      refine (does_any o ho hbo7 t7.size (fun w' hw => Kd.C_below hCo (t7.trans hw)) (by simp [DM.load])).mono ?_
      rintro e w8 ⟨p8, q8, rfl, hbo8, b8⟩
      have t8 := t7.trans b8
      have hln := op_len (DM.load b) o
      have hl0 : (DM.load b).ws.length = 0 := rfl
      generalize (DM.load b).op o = D8 at hbo8 hln
      go_wp2_with fail
      refine (hbo8.same (by omega)).mono ?_
      rintro e w9 ⟨rfl, b9⟩
      have t9 := t8.trans (b9.mono t8.size)
      go_wp2
      go_ret
      exact ⟨rfl, t9⟩
theorem loads_any {w : World} {A A1 : Option Addr} {c c1 : Nat} {b : List Int} (o : OP) (ho : o.ok) (hC : KB.C w A b.length b) (hCo : KB.C w A1 o.bytes.length o.bytes) (hG : Bytes b ∧ b.length ≤ 140737488351232) :
  Calls Try.prog 5 #[.slice A b.length c, opAgg o A1 c1] w fun e w' => e = .returned (.bool true) ∧ Below w.heap.size w w' := by
  by_cases h : b.length % 64 = 0 ∧ 16 ≤ b.length / 64 ∧ b.length / 64 ≤ 4096
  · cases A with
    | none => have := C_none hC; subst this; simp at h
    | some a => exact loads_in o (b.length / 64) ho hC hCo (by omega) h.2.1 h.2.2 hG.1
  · exact loads_out o hC hG.2 h
theorem KOp_agg {w : World} {o : OP} {cs : Array Value} (h : KOp.K w o cs.toList) : ∃ A c, Value.agg cs = opAgg o A c ∧ KB.C w A o.bytes.length o.bytes := by
  obtain ⟨A, c, hcs, _, hC⟩ := KOp_open h
  refine ⟨A, c, ?_, hC⟩
  have : cs = (o.cells A c).toArray := by rw [← hcs]
  rw [this]
  rfl
theorem loads_row {w : World} {A : Option Addr} {c : Nat} {b : List Int} {o : OP} {cs : Array Value} (hC : KB.C w A b.length b) (hG : Bytes b ∧ b.length ≤ 140737488351232) (k : KOp.K w o cs.toList) (ho : o.ok) :
  Calls Try.prog 5 #[.slice A b.length c, .agg cs] w fun e w' => e = .returned (.bool true) ∧ Below w.heap.size w w' := by
  obtain ⟨A1, c1, he, hCo⟩ := KOp_agg k
  rw [he]
  exact loads_any o ho hC hCo hG
end Go.Proofs.Ytpgiooheoafieaa
