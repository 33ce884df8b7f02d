/- Package foundrylaw21: does: Read. -/
import Derived.Test.YtpgiooheoafieaaDoes
set_option linter.unusedVariables false
set_option linter.unusedSimpArgs false
namespace Go.Proofs.Ytpgiooheoafieaa
open Go.RowKit Go.Proofs.YtpgiooheoafieaaW.PrintWords

theorem conv_none (W : World) : (convert 29 9 (.slice none 0 0)).run Try.prog W = .ok (.string (strOfNums [])) W := conv_str (⟨rfl, by simp, fun h => absurd h (by simp)⟩ : KB.C W none 0 [])
theorem read_okI {w : World} {ok : Nat → Prop} {p : Nat} {D : DM} (i : Int) (h : PDisk w ok p D) (hr : D.ready i = 0) (hi : 0 ≤ i ∧ i < D.n) :
  Calls Try.prog 50 #[.pointer (some ⟨p, 0, none⟩), .int .i64 i] w fun e w' => e = .returned (.tuple #[.slice (some ⟨w.heap.size, 0, none⟩) 64 64, .int .i64 0]) ∧ w' = w.alloc (.cells (nums .u8 (D.blk i.toNat)).toArray 126) := by
  obtain ⟨j, rfl⟩ := Int.eq_ofNat_of_zero_le hi.1
  exact read_ok j h hr (by omega)
theorem rread_okI {w : World} {ok : Nat → Prop} {p : Nat} {D : DM} (i : Int) (h : RDisk w ok p D) (hr : D.ready i = 0) (hi : 0 ≤ i ∧ i < D.n) :
  Calls Try.prog 74 #[.pointer (some ⟨p, 0, none⟩), .int .i64 i] w fun e w' => ∃ A c, e = .returned (.tuple #[.slice A 64 c, .int .i64 0]) ∧ KB.R 5 w' w.heap.size (fun k => w.heap.size ≤ k) (.slice A 64 c) (D.blk i.toNat) ∧ Below w.heap.size w w' := by
  obtain ⟨j, rfl⟩ := Int.eq_ofNat_of_zero_le hi.1
  exact rread_ok j h hr (by omega)
theorem ready_range {D : DM} {i : Int} (hr : D.ready i = 0) : 0 ≤ i ∧ i < D.n := by
  simp only [DM.ready] at hr
  split at hr
  · simp at hr
  · split at hr
    · simp at hr
    · omega
set_option maxRecDepth 100000 in
set_option maxHeartbeats 4000000 in
theorem does1 {B : Nat} {w : World} {p q : Nat} {D : DM} {A : Option Addr} {c : Nat} (o : OP) (ho : o.ok) (hb : Both B w p q D) (hB : B ≤ w.heap.size) (hk : o.kind = 1) :
  Calls Try.prog 28 #[.pointer (some ⟨p, 0, none⟩), .pointer (some ⟨q, 0, none⟩), opAgg o A c] w fun e w' => e = .returned (.tuple #[.pointer (some ⟨p, 0, none⟩), .pointer (some ⟨q, 0, none⟩), .bool true]) ∧ Both B w' p q D ∧ Below B w w' := by
  have k1 : (o.kind == 1) = true := by rw [hk]; decide
  have hB1 := below_alloc (Below.refl w.heap.size w) (opObj o A c)
  have hx := boxed_new w o A c
  have hb1 := hb.below hB1
  have hs1 : (w.alloc (opObj o A c)).heap.size = w.heap.size + 1 := by simp
  obtain ⟨okd, okt, hd0, ht0, hap, hed, het⟩ := hb
  have hd := hd0.step (w1 := w.alloc (opObj o A c)) (fun k _ hk => hB1.block k hk)
  have ht := ht0.step (w1 := w.alloc (opObj o A c)) (fun k _ hk => hB1.block k hk)
  clear hk
  have f1 := hx.f1
  by_cases hr : D.ready o.at_ = 0
  · have hi := ready_range hr
    have hbl : (D.blk o.at_.toNat).length = 64 := blk_length hd.1 (by omega)
    have HI := hid hi
    have HBL := hid hbl
    clear hi hbl
    go_enter Try.func28, Try.ntmps28
    go_wp2_with fail
    refine (read_okI o.at_ hd hr HI.out).mono ?_
    rintro e w2 ⟨rfl, hw2⟩
    have hB2 : Below (w.heap.size + 1) (w.alloc (opObj o A c)) w2 := by rw [hw2, ← hs1]; exact below_alloc (Below.refl _ _) _
    have hx2 := hx.below (by rw [hs1]; exact hB2)
    have ht2 := ht.step (w1 := w2) (fun k _ hk => hB2.block k (by rw [hs1] at hk; exact hk))
    have hd2 := hd.step (w1 := w2) (fun k _ hk => hB2.block k (by rw [hs1] at hk; exact hk))
    have ho2 : w2.ownsRow 0 126 1 (.slice (some ⟨w.heap.size + 1, 0, none⟩) 64 64) 64 (nums .u8 (D.blk o.at_.toNat)) := by
      rw [hw2, ← hs1]
      exact World.ownsRow_lit (base := 0) (e := 126) (size := 1) (w.alloc (opObj o A c)) (nums .u8 (D.blk o.at_.toNat)).toArray 64 (Nat.zero_le _) (by simp [maxLen]) (by simp [nums_length, HBL.out])
    have hF2 : RB w2 (fun k => k = w.heap.size + 1) (some ⟨w.heap.size + 1, 0, none⟩) (D.blk o.at_.toNat) := by
      rw [hw2, ← hs1]
      exact RB_new _ _ _ (by rw [HBL.out]; omega)
    have f1' := hx2.f1
    have hs2 : w2.heap.size = w.heap.size + 2 := by rw [hw2]; simp
    clear hw2 f1
    rw [hs1]
    go_wp2_with fail
    refine (rread_okI o.at_ ht2 hr HI.out).mono ?_
    rintro e w3 ⟨A3, c3, rfl, hR3, hB3⟩
    have hF3 := RB_below hF2 hB3
    have ho3 := own_move ho2 (fun k hk => hB3.block k (own_lt ho2 k hk))
    have hd3 := hd2.step (w1 := w3) (fun k _ hk => hB3.block k hk)
    have ht3 := ht2.step (w1 := w3) (fun k _ hk => hB3.block k hk)
    have hcv1 := conv_str (c := 64) (Kd.F_now hF3)
    have hcv2 := conv_str (c := c3) (Kd.F_now (R_RB hR3).2)
    rw [HBL.out] at hcv1 hcv2
    clear f1'
    go_wp2_with fail
    generalize hT : strOfNums (D.blk o.at_.toNat) = T
    clear hT hcv1 hcv2
    go_loopw [14] (fun j wr => ∃ k : Nat, k ≤ 64 ∧ j = .int .i64 k ∧ ∃ ys : List Int, ys.length = 64 ∧ wr.ownsRow 0 126 1 (.slice (some ⟨w.heap.size + 1, 0, none⟩) 64 64) 64 (nums .u8 ys) ∧ Chg (fun z => z = w.heap.size + 1) w3 wr) (fun j _ => 64 - (intOf j).toNat)
    case atStart => exact ⟨0, by omega, rfl, _, HBL.out, ho3, Chg.refl _ _⟩
    case round =>
      obtain ⟨k, hk, rfl, ys, hys, hor, hcr⟩ := hrel
      by_cases hlt : k < 64
      · obtain ⟨hc, hz⟩ := own_at hor (k : Int) (by omega) (by omega)
        simp only [Int.toNat_natCast] at hc hz
        go_wp2
        go_roundw
        case rel =>
          have h2 := (own_store hor (k : Int) ((rd ys k + 1) % 256)).1
          simp only [Int.toNat_natCast] at h2
          exact ⟨k + 1, by omega, by go_num, _, by rw [List.length_set]; exact hys, h2, hcr.setCell (p := ⟨w.heap.size + 1, k, none⟩) (.inl rfl) _⟩
        case measure => simp [intOf]; omega
      · have s3 := hB3.size
        have s4 := hcr.size
        have hd4 := hd3.step (w1 := wr) (fun k hk hlt => hcr.block k hlt (fun e => by have := (hed k hk).2; omega))
        have ht4 := ht3.step (w1 := wr) (fun k hk hlt => hcr.block k hlt (fun e => by have := (het k hk).2; omega))
        have t4 : Below B w wr := ((hB1.mono hB).trans (hB2.mono (by omega))).trans ((hB3.mono (by omega)).trans (hcr.below_ (B := B) (by omega) (fun k hk => by omega)))
        have hfin : Both B wr p q D := ⟨okd, okt, hd4, ht4, hap, fun k hk => ⟨(hed k hk).1, by have := (hed k hk).2; omega⟩, fun k hk => ⟨(het k hk).1, by have := (het k hk).2; omega⟩⟩
        go_wp2
        go_ret3
        exact ⟨rfl, hfin, t4⟩
  · have hcv := conv_none
    go_enter Try.func28, Try.ntmps28
    go_wp2_with fail
    refine (read_err o.at_ hd hr).mono ?_
    rintro e w2 ⟨rfl, rfl⟩
    go_wp2_with fail
    refine (rread_err o.at_ ht hr).mono ?_
    rintro e w2 ⟨rfl, rfl⟩
    go_wp2
    go_loopw [14] (fun j wr => j = .int .i64 0 ∧ Below w.heap.size w wr) (fun j _ => 0)
    case atStart => exact ⟨rfl, hB1⟩
    case round =>
      obtain ⟨rfl, hBr⟩ := hrel
      go_wp2
      go_ret3
      exact ⟨rfl, Both.below ⟨okd, okt, hd0, ht0, hap, hed, het⟩ hBr, hBr.mono hB⟩
end Go.Proofs.Ytpgiooheoafieaa
