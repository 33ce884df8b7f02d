/- Package foundrylaw21: does: Write, Clone. -/
import Derived.Test.YtpgiooheoafieaaDoesB
set_option linter.unusedVariables false
set_option linter.unusedSimpArgs false
namespace Go.Proofs.Ytpgiooheoafieaa
open Go.RowKit Go.Proofs.YtpgiooheoafieaaW.PrintWords

theorem opBlock_le {fill : Int} {bytes : List Int} (odd : Bool) (h : bytes.length ≤ 140737488351232) : (opBlock fill bytes odd).length ≤ 140737488351232 := by
  unfold opBlock
  split
  · exact h
  · simp only [List.length_append, List.length_take, List.length_replicate]; omega
set_option maxRecDepth 100000 in
set_option maxHeartbeats 4000000 in
theorem does2 {B : Nat} {w : World} {p q : Nat} {D : DM} {A : Option Addr} {c : Nat} (o : OP) (ho : o.ok) (hb : Both B w p q D) (hB : B ≤ w.heap.size) (hk : o.kind = 2) (hC : ∀ w', Below B w w' → KB.C w' A o.bytes.length o.bytes) (hl : (D.ws.length + 1) * 32 ≤ 140737488355328) :
  Calls Try.prog 28 #[.pointer (some ⟨p, 0, none⟩), .pointer (some ⟨q, 0, none⟩), opAgg o A c] w fun e w' => e = .returned (.tuple #[.pointer (some ⟨p, 0, none⟩), .pointer (some ⟨q, 0, none⟩), .bool true]) ∧ Both B w' p q (D.writeD o.at_ o.block) ∧ Below B w w' := by
  have k1 : (o.kind == 1) = false := by rw [hk]; decide
  have k2 : (o.kind == 2) = true := by rw [hk]; decide
  have hB1 := below_alloc (Below.refl w.heap.size w) (opObj o A c)
  have hx := boxed_new w o A c
  have hb1 := hb.below hB1
  have hs1 : (w.alloc (opObj o A c)).heap.size = w.heap.size + 1 := by simp
  obtain ⟨okd, okt, hd0, ht0, hap, hed, het⟩ := hb
  have hd := hd0.step (w1 := w.alloc (opObj o A c)) (fun k _ hk => hB1.block k hk)
  have ht := ht0.step (w1 := w.alloc (opObj o A c)) (fun k _ hk => hB1.block k hk)
  clear hk hd0 ht0 hb1
  have f1 := hx.f1
  have hC1 : KB.C (w.alloc (opObj o A c)) A o.bytes.length o.bytes := hC _ (hB1.mono hB)
  have HX := hid hx.all
  go_enter Try.func28, Try.ntmps28
  go_wp2_with (refine wpList_load_addr rfl 31 (.tmp 5) rfl ⟨w.heap.size, 0, none⟩ rfl [.int .i64 o.kind, .int .i64 o.at_, .int .i64 o.n, .int .u8 o.fill, .slice A o.bytes.length c, .bool o.odd] _ HX.out Try.underlying31 rfl (by kernel_rfl) ?_)
  refine (block_any o.odd hC1 ho.l).mono ?_
  rintro e w2 ⟨A2, c2, rfl, hR2, hB2⟩
  have hx2 := hx.below hB2
  have hd2 := hd.step (w1 := w2) (fun k _ hk => hB2.block k hk)
  have ht2 := ht.step (w1 := w2) (fun k _ hk => hB2.block k hk)
  have g1 := hx2.f1
  have s2 : w.heap.size + 1 ≤ w2.heap.size := by have := hB2.size; omega
  clear f1
  go_wp2_with fail
  have hF2 : RB w2 (fun q => (w.alloc (opObj o A c)).heap.size ≤ q) A2 o.block := Kd.R_F hR2
  refine (write_any o.at_ hd2 hF2 (fun q h1 h2 => by have := (hed q h2).2; omega) (opBlock_B _ ho.f ho.b) hl).mono ?_
  rintro e w3 ⟨rfl, hd3, hc3⟩
  have s3 := hc3.size
  have hx3 := hx2.step hc3 (fun h => by have := (hed _ h).2; omega)
  have ht3 := ht2.step (w1 := w3) (fun k hk hlt => hc3.block k hlt (fun h => hap k h hk))
  have hR3 := Kd.R_step hR2 (w1 := w3) (fun k hk hlt => hc3.block k hlt (fun h => by have := (hed _ h).2; omega))
  have t3 : Below B w w3 := (hB1.mono hB).trans ((hB2.mono (by omega)).trans (hc3.below_ (B := B) (by omega) (fun k hk => (hed k hk).1)))
  have hC3 : KB.C w3 A o.bytes.length o.bytes := hC _ t3
  clear g1
  go_wp2_with fail
  refine wp_region_plan [] (.take 0 (.take 1 (.take 2 (.take 3 (.run 4 (.run 5 (.take 6 .done))))))) (fun w' => Boxed w' w.heap.size o A c) (by kernel_rfl) (by kernel_rfl) (fun c a d v w h => by cases d <;> exact h) (hx3.below (below_drew (Below.refl _ _))) ?_
  iterate 3 (apply plan_take rfl rfl; (case hy => (intro w' hS; have s1 := hS.f1; clear hS; go_simp; try exact rfl)); go_simp)
  apply plan_take rfl rfl
  case hy =>
    intro w' hS
    refine exec_load_row 31 (.tmp 5) ?_ ⟨w.heap.size, 0, none⟩ ?_ [.int .i64 o.kind, .int .i64 o.at_, .int .i64 o.n, .int .u8 o.fill, .slice A o.bytes.length c, .bool o.odd] _ ?_ Try.underlying31 ?_ ?_
    · exact rfl
    · exact rfl
    · exact hS.all
    · exact rfl
    · kernel_rfl
  go_simp
  refine plan_run_on rfl rfl (fun K hK => ?_)
  go_simp
  have hC3d : KB.C w3.drew A o.bytes.length o.bytes := Kd.C_below hC3 (below_drew (Below.refl _ _))
  refine (block_any o.odd hC3d ho.l).mono ?_
  rintro e w4 ⟨A4, c4, rfl, hR4, hB4'⟩
  have hB4 : Below w3.heap.size w3 w4 := below_step (below_drew (Below.refl w3.heap.size w3)) hB4'
  refine hK _ _ _ (fun _ h => h) (hx3.below hB4) ?_
  clear hK K
  have s4 := hB4.size
  have ht4 := ht3.step (w1 := w4) (fun k _ hk => hB4.block k hk)
  have hd4 := hd3.bound.step (w1 := w4) (fun k _ hk => hB4.block k hk)
  have hR4b := Kd.R_below hR3 hB4
  refine plan_run_on rfl rfl (fun K hK => ?_)
  go_simp
  have hF4 : RB w4 (fun q => w3.heap.size ≤ q) A4 o.block := Kd.R_F hR4
  refine (rwrite_any o.at_ ht4 hF4 (fun q h1 h2 => by have := (het q h2).2; omega) (opBlock_B _ ho.f ho.b) hl).mono ?_
  rintro e w5 ⟨rfl, ht5, hc5⟩
  have s5 := hc5.size
  have hx5 := (hx3.below hB4).step hc5 (fun h => by have := (het _ h).2; omega)
  have hd5 := hd4.step (w1 := w5) (fun k hk hlt => hc5.block k hlt (fun h => by
    rcases hk.1 with h2 | h2
    · exact hap k h2 h
    · have := (het _ h).2; omega))
  have hR5 := Kd.R_step hR4b (w1 := w5) (fun k hk hlt => hc5.block k hlt (fun h => by have := (het _ h).2; omega))
  refine hK _ _ _ (fun _ h => h) hx5 ?_
  clear hK K
  go_simp
  apply plan_take rfl rfl
  case hy => (intro w' hS; clear hS; go_simp; try exact rfl)
  go_simp
  refine plan_done ?_
  go_wp2_with fail
  have hob := R_own1 hR5
  have hbk : ∀ z, (Value.slice A2 (opBlock o.fill o.bytes o.odd).length c2).ownBlock = some z → w.heap.size + 1 ≤ z ∧ z < w2.heap.size := fun z hz => by
    have h1 := R_own1 hR2
    have h2 := own_base h1 z hz
    exact ⟨by omega, own_lt h1 z hz⟩
  have HBK := hid hbk
  have hed5 : ∀ k, ((okd k ∨ w2.heap.size ≤ k) ∧ k < w3.heap.size) → B ≤ k ∧ k < w5.heap.size := fun k hk => by
    rcases hk.1 with h | h
    · have := hed k h; omega
    · omega
  have het5 : ∀ k, ((okt k ∨ w4.heap.size ≤ k) ∧ k < w5.heap.size) → B ≤ k ∧ k < w5.heap.size := fun k hk => by
    rcases hk.1 with h | h
    · have := het k h; omega
    · omega
  have hap5 : apart (fun k => (okd k ∨ w2.heap.size ≤ k) ∧ k < w3.heap.size) (fun k => (okt k ∨ w4.heap.size ≤ k) ∧ k < w5.heap.size) := fun k h1 h2 => by
    rcases h1.1 with h | h <;> rcases h2.1 with h' | h'
    · exact hap k h h'
    · have := hed k h; omega
    · have := het k h'; omega
    · omega
  have ht5b := ht5.bound
  have t5 : Below B w w5 := t3.trans ((hB4.mono (by omega)).trans (hc5.below_ (B := B) (by omega) (fun k hk => (het k hk).1)))
  have hno : ∀ z, (Value.slice A2 (opBlock o.fill o.bytes o.odd).length c2).ownBlock = some z → ¬ ((okd z ∨ w2.heap.size ≤ z) ∧ z < w3.heap.size) ∧ ¬ ((okt z ∨ w4.heap.size ≤ z) ∧ z < w5.heap.size) ∧ B ≤ z := fun z hz => by
    have h1 := hbk z hz
    refine ⟨?_, ?_, by omega⟩
    · rintro ⟨h | h, _⟩
      · have := hed z h; omega
      · omega
    · rintro ⟨h | h, _⟩
      · have := het z h; omega
      · omega
  have HNO := hid hno
  have HED := hid (And.intro hed5 (And.intro het5 hap5))
  clear hbk hno hed5 het5 hap5 hed het hap hx hx2 hx3 hx5 hR2 hR3 hR4 hR4b hR5 hF2 hF4 hC hC1 hC3 hC3d hd hd2 hd3 hd4 ht ht2 ht3 ht4 ht5 HX
  have hL9 := opBlock_le (fill := o.fill) o.odd ho.l
  generalize hL : (opBlock o.fill o.bytes o.odd) = L at hob HNO hL9 ⊢
  have HL := hid hL
  clear hL
  have HB9 := hid hob.1
  go_loopw [18] (fun j wr => ∃ k : Nat, k ≤ L.length ∧ j = .int .i64 k ∧ ∃ ys : List Int, ys.length = L.length ∧ wr.ownsRow (w.alloc (opObj o A c)).heap.size 5 1 (.slice A2 L.length c2) L.length (nums .u8 ys) ∧ Chg (fun z => (Value.slice A2 L.length c2).ownBlock = some z) w5 wr) (fun j _ => L.length - (intOf j).toNat)
  case atStart => exact ⟨0, Nat.zero_le _, rfl, L, rfl, hob, Chg.refl _ _⟩
  case round =>
    obtain ⟨k, hk, rfl, ys, hys, hor, hcr⟩ := hrel
    by_cases hlt : k < L.length
    · obtain ⟨g, cap, he, hg1, hg2⟩ := hor.form (by omega)
      injection he with he1 he2 he3
      subst he1
      subst he3
      obtain ⟨hc, hz⟩ := own_at hor (k : Int) (by omega) (by omega)
      simp only [Int.toNat_natCast] at hc hz
      have hlw : (k : Int) < (L.length : Int) := by omega
      go_wp2
      go_roundw
      case rel =>
        have h2 := (own_store hor (k : Int) ((rd ys k + 1) % 256)).1
        simp only [Int.toNat_natCast] at h2
        exact ⟨k + 1, by omega, by go_num, _, by rw [List.length_set]; exact hys, h2, hcr.setCell (p := ⟨g, k, none⟩) (.inl rfl) _⟩
      case measure => simp [intOf]; omega
    · have s6 := hcr.size
      have hno := HNO.out
      obtain ⟨hed5, het5, hap5⟩ := HED.out
      have hd6 := hd5.step (w1 := wr) (fun k hk hlt => hcr.block k hlt (fun e => (hno k e).1 hk))
      have ht6 := ht5b.step (w1 := wr) (fun k hk hlt => hcr.block k hlt (fun e => (hno k e).2.1 hk))
      have t6 : Below B w wr := t5.trans (hcr.below_ (B := B) (by omega) (fun k hk => (hno k hk).2.2))
      have hfin : Both B wr p q (D.writeD o.at_ o.block) := ⟨_, _, hd6, ht6, hap5, fun k hk => ⟨(hed5 k hk).1, by have := (hed5 k hk).2; omega⟩, fun k hk => ⟨(het5 k hk).1, by have := (het5 k hk).2; omega⟩⟩
      clear hno hed5 het5 hap5 hd5 ht5b
      go_wp2
      go_ret3
      exact ⟨rfl, hfin, t6⟩
end Go.Proofs.Ytpgiooheoafieaa
