/- Package foundrylaw21: does: Clone; does of any Op. -/
import Derived.Test.YtpgiooheoafieaaDoesC
set_option linter.unusedVariables false
set_option linter.unusedSimpArgs false
namespace Go.Proofs.Ytpgiooheoafieaa
open Go.RowKit Go.Proofs.YtpgiooheoafieaaW.PrintWords

def Z64 : List Int := List.replicate 64 0
theorem Z64_len : Z64.length = 64 := List.length_replicate
theorem Z64_B : Bytes Z64 := Bytes.zeros 64
theorem made64 (w : World) : RB (w.alloc (.cells (madeCells #[.int .u8 0] 64) 5)) (fun k => k = w.heap.size) (some ⟨w.heap.size, 0, none⟩) Z64 := by
  have h := own_made w w.heap.size 5 .u8 64 (Nat.le_refl _) (by omega)
  exact (R_RB (c := 64) (n := 64) (Rown (ok := fun k => k = w.heap.size) (by rw [Z64_len]; exact h) (fun k hk => by rw [← ob_eq hk]))).2
set_option maxRecDepth 100000 in
set_option maxHeartbeats 4000000 in
theorem does6 {B : Nat} {w : World} {p q : Nat} {D : DM} {A : Option Addr} {c : Nat} (o : OP) (ho : o.ok) (hb : Both B w p q D) (hB : B ≤ w.heap.size) (hk : o.kind = 6) (hl : (D.ws.length + 1) * 32 ≤ 140737488355328) :
  Calls Try.prog 28 #[.pointer (some ⟨p, 0, none⟩), .pointer (some ⟨q, 0, none⟩), opAgg o A c] w fun e w' => ∃ p' q', e = .returned (.tuple #[.pointer (some ⟨p', 0, none⟩), .pointer (some ⟨q', 0, none⟩), .bool true]) ∧ Both B w' p' q' D ∧ Below B w w' := by
  have k1 : (o.kind == 1) = false := by rw [hk]; decide
  have k2 : (o.kind == 2) = false := by rw [hk]; decide
  have k3 : (o.kind == 3) = false := by rw [hk]; decide
  have k4 : (o.kind == 4) = false := by rw [hk]; decide
  have k5 : (o.kind == 5) = false := by rw [hk]; decide
  have k6 : (o.kind == 6) = true := by rw [hk]; decide
  have hB1 := below_alloc (Below.refl w.heap.size w) (opObj o A c)
  have hx := boxed_new w o A c
  have hb1 := hb.below hB1
  have hs1 : (w.alloc (opObj o A c)).heap.size = w.heap.size + 1 := by simp
  obtain ⟨okd, okt, hd0, ht0, hap, hed, het⟩ := hb
  have hd := hd0.step (w1 := w.alloc (opObj o A c)) (fun k _ hk => hB1.block k hk)
  have ht := ht0.step (w1 := w.alloc (opObj o A c)) (fun k _ hk => hB1.block k hk)
  clear hk hd0 ht0 hb1
  have hmk : ∀ W : World, (Instr.makeSlice 29 (.int .i64 64) (.int .i64 64)).run Try.prog W = .ok (.slice (some ⟨W.heap.size, 0, none⟩) 64 64) (W.alloc (.cells (madeCells #[.int .u8 0] 64) 5)) := make_bytes 64 (by omega)
  clear hx
  go_enter Try.func28, Try.ntmps28
  go_wp2_with fail
  refine (dclone_any hd (by omega)).mono ?_
  rintro e w2 ⟨p2, rfl, hn2, hB2⟩
  have s2 := hB2.size
  have hd2 := hd.step (w1 := w2) (fun k _ hk => hB2.block k hk)
  have ht2 := ht.step (w1 := w2) (fun k _ hk => hB2.block k hk)
  have hn2b := hn2.bound
  go_wp2_with fail
  refine (on_any hd2).mono ?_
  rintro e w3 ⟨rfl, hd3, hc3⟩
  have s3 := hc3.size
  have ht3 := ht2.step (w1 := w3) (fun k hk hlt => hc3.block k hlt (fun h => hap k h hk))
  have hn3 := hn2b.step (w1 := w3) (fun k hk hlt => hc3.block k hlt (fun h => by have := hed k h; omega))
  go_wp2_with fail
  have hBm := below_alloc (Below.refl w3.heap.size w3) (.cells (madeCells #[.int .u8 0] 64) 5)
  have hd3m := hd3.step (w1 := (w3.alloc (.cells (madeCells #[.int .u8 0] 64) 5))) (fun k _ hk => hBm.block k hk)
  have ht3m := ht3.step (w1 := (w3.alloc (.cells (madeCells #[.int .u8 0] 64) 5))) (fun k _ hk => hBm.block k hk)
  have hn3m := hn3.step (w1 := (w3.alloc (.cells (madeCells #[.int .u8 0] 64) 5))) (fun k _ hk => hBm.block k hk)
  have hF3 := made64 w3
  have sm : w3.heap.size ≤ (w3.alloc (.cells (madeCells #[.int .u8 0] 64) 5)).heap.size := hBm.size
  have hwr := write_any (A := some ⟨w3.heap.size, 0, none⟩) (c := 64) 0 hd3m hF3 (fun k h1 h2 => by have := hed k h2; omega) Z64_B hl
  rw [Z64_len] at hwr
  refine hwr.mono ?_
  rintro e w4 ⟨rfl, _, hc4⟩
  have s4 := hc4.size
  have ht4 := ht3m.step (w1 := w4) (fun k hk hlt => hc4.block k hlt (fun h => hap k h hk))
  have hn4 := hn3m.step (w1 := w4) (fun k hk hlt => hc4.block k hlt (fun h => by have := hed k h; omega))
  clear hwr hmk
  go_wp2_with fail
  refine (rclone_any ht4 (by omega)).mono ?_
  rintro e w5 ⟨q5, rfl, hm5, hB5⟩
  have s5 := hB5.size
  have hn5 := hn4.step (w1 := w5) (fun k _ hk => hB5.block k hk)
  have hm5b := hm5.bound
  have t5 : Below B w w5 := (hB1.mono hB).trans ((hB2.mono (by omega)).trans ((hc3.below_ (B := B) (by omega) (fun k hk => (hed k hk).1)).trans ((hBm.mono (by omega)).trans ((hc4.below_ (B := B) (by omega) (fun k hk => (hed k hk).1)).trans (hB5.mono (by omega))))))
  have hfin : Both B w5 p2 q5 D := ⟨_, _, hn5, hm5b, fun k h1 h2 => by omega, fun k hk => by omega, fun k hk => by omega⟩
  clear hed het hap hd hd2 hd3 ht ht2 ht3 ht4 hn2 hn2b hn3 hn4 hn5 hm5 hm5b hd3m ht3m hn3m
  go_wp2
  go_ret3
  exact ⟨p2, q5, rfl, hfin, t5⟩
/-- What a disk is behind an Op. -/
def DM.op (D : DM) (o : OP) : DM :=
  if o.kind = 2 then D.writeD o.at_ o.block else if o.kind = 3 then D.cut o.n else if o.kind = 4 then { D with left := -1, gone := false } else if o.kind = 5 then { D with ws := [] } else D
theorem op_len (D : DM) (o : OP) : (D.op o).ws.length ≤ D.ws.length + 1 := by
  unfold DM.op
  split
  · unfold DM.writeD
    split
    · omega
    split
    · omega
    split
    · simp
    · simp
  split
  · simp [DM.cut]
  split
  · simp
  split
  · simp
  · omega
theorem does_any {B : Nat} {w : World} {p q : Nat} {D : DM} {A : Option Addr} {c : Nat} (o : OP) (ho : o.ok) (hb : Both B w p q D) (hB : B ≤ w.heap.size) (hC : ∀ w', Below B w w' → KB.C w' A o.bytes.length o.bytes) (hl : (D.ws.length + 1) * 32 ≤ 140737488355328) :
  Calls Try.prog 28 #[.pointer (some ⟨p, 0, none⟩), .pointer (some ⟨q, 0, none⟩), opAgg o A c] w fun e w' => ∃ p' q', e = .returned (.tuple #[.pointer (some ⟨p', 0, none⟩), .pointer (some ⟨q', 0, none⟩), .bool true]) ∧ Both B w' p' q' (D.op o) ∧ Below B w w' := by
  unfold DM.op
  by_cases h1 : o.kind = 1
  · rw [if_neg (by rw [h1]; decide), if_neg (by rw [h1]; decide), if_neg (by rw [h1]; decide), if_neg (by rw [h1]; decide)]
    exact (does1 o ho hb hB h1).mono fun e w' h => ⟨p, q, h⟩
  by_cases h2 : o.kind = 2
  · rw [if_pos h2]
    exact (does2 o ho hb hB h2 hC hl).mono fun e w' h => ⟨p, q, h⟩
  by_cases h3 : o.kind = 3
  · rw [if_neg h2, if_pos h3]
    exact (does3 o ho hb hB h3).mono fun e w' h => ⟨p, q, h⟩
  by_cases h4 : o.kind = 4
  · rw [if_neg h2, if_neg h3, if_pos h4]
    exact (does4 o ho hb hB h4).mono fun e w' h => ⟨p, q, h⟩
  by_cases h5 : o.kind = 5
  · rw [if_neg h2, if_neg h3, if_neg h4, if_pos h5]
    exact (does5 o ho hb hB h5).mono fun e w' h => ⟨p, q, h⟩
  by_cases h6 : o.kind = 6
  · rw [if_neg h2, if_neg h3, if_neg h4, if_neg h5]
    exact does6 o ho hb hB h6 hl
  · rw [if_neg h2, if_neg h3, if_neg h4, if_neg h5]
    exact (does0 o hb hB ⟨by simpa using h1, by simpa using h2, by simpa using h3, by simpa using h4, by simpa using h5, by simpa using h6⟩).mono fun e w' h => ⟨p, q, h⟩
end Go.Proofs.Ytpgiooheoafieaa
