/- foundrylaw03.WireReads answers true. -/
import Derived.Test.YtiecljhgpbifjaaLaw03a
set_option linter.unusedVariables false
set_option linter.unusedSimpArgs false
namespace Go.Proofs.Ytiecljhgpbifjaa
open Go.RowKit Go.Proofs.YtiecljhgpbifjaaW.PrintWords

theorem C_cap {w : World} {K : Kd Int} {A : Option Addr} {xs : List Int} (h : K.C w A xs.length xs) : xs.length ≤ 9223372036854775807 := h.2.1
/-- What lies below w's end is read so in every world that keeps it. -/
theorem RB_of_below {w : World} {A : Option Addr} {xs : List Int} (h : KB.C w A xs.length xs) : RB w (fun k => k < w.heap.size) A xs := by
  intro W' hW
  refine Kd.C_of_reads (enc := Value.int .u8) (d := (0 : Int)) (h1 := fun _ => rfl) ?_
  obtain ⟨h1, h2, h3⟩ := C_int h
  refine ⟨h1, h2, fun hp => ?_⟩
  obtain ⟨ad, he, hc⟩ := h3 hp
  refine ⟨ad, he, fun j hj => ?_⟩
  have := hc j hj
  have hlt := World.block_lt_of_cell? w _ this
  have hb := hW _ hlt hlt
  rw [← this]
  simp [World.cell?, hb]
theorem block_of_add' (a : Addr) (n : Nat) : (a.add n).block = a.block := by unfold Addr.add; split <;> rfl
set_option maxRecDepth 100000 in
set_option maxHeartbeats 4000000 in
theorem reads_any {w : World} {A B : Option Addr} {c d : Nat} {b : List Int} {l : List OQ} (hC : KB.C w A b.length b) (hb : Bytes b ∧ b.length ≤ 140737488351232) (hcap : b.length ≤ c) (hL : KOQ.C w B l.length l) (hG : (∀ x ∈ l, x.ok) ∧ l.length * 96 ≤ 140737488351232) :
  Calls Try.prog 4 #[.slice A b.length c, .slice B l.length d] w fun e w' => e = .returned (.bool true) ∧ Below w.heap.size w w' := by
  have hRB := RB_of_below hC
  have hlen := hb.2
  have hR0 := C_int hC
  go_enter Try.func4, Try.ntmps4
  go_wp2_with (at_builtin; refine print_append_row (w0 := w) w.heap.size rfl (.tmp 8) (.tmp 9) 24 5 .u8 1 rfl Try.underlying24 info_u8 (by decide) _ [] b A b.length c rfl rfl ?HO ?HR ?HB ?hb ?hl ?_)
  case HO => exact World.ownsRow_made (base := w.heap.size) w #[] 0 (Nat.le_refl _) (Nat.zero_le _) rfl
  case HR => exact hR0.below (below_alloc (Below.refl _ _) _)
  case HB => exact below_alloc (Below.refl _ _) _
  case hb => simp
  case hl => simp; omega
  intro v1 w1 ho hB1 hg hat
  have ho1 : w1.ownsRow w.heap.size 5 1 v1 b.length (nums .u8 b) := by simpa using ho
  have hR1 : KB.R 5 w1 w.heap.size (fun k => w.heap.size ≤ k) v1 b := Rown ho1 (fun q hq => own_base ho1 q hq)
  obtain ⟨A1, c1, rfl, hcap1, hC1⟩ := Kd.R_reads hR1
  clear ho ho1 hg hat
  have s1 := hB1.size
  go_wp2_with fail
  refine (read_any (c := c1) hC1 hb.1 hlen).mono ?_
  rintro e w2 ⟨p, rfl, hP, hB2⟩
  have s2 := hB2.size
  have hpk : w1.heap.size ≤ p ∧ p < w2.heap.size := by obtain ⟨_, h, _⟩ := hP; exact h.okp
  have hRB2 : RB w2 (fun k => k < w.heap.size) A b := Kd.F_step hRB (fun k hk _ => ((hB1.mono (Nat.le_refl _)).trans (hB2.mono s1)).block k hk)
  go_wp2_with fail
  refine (fread_any (c := c) hRB2 (fun k hk => by omega) hb.1 hcap (by omega)).mono ?_
  rintro e w3 ⟨rfl, hF, hs3, hB3⟩
  go_wp2_with fail
  refine (alive_any w3).mono ?_
  rintro e w4 ⟨rfl, hB4⟩
  have s4 := hB4.size
  have hT : Two w4 (fun k => w1.heap.size ≤ k ∧ k < w2.heap.size) (fun k => k < w.heap.size ∨ k = w2.heap.size) (some p) w2.heap.size ⟨b, 0⟩ :=
    ⟨PSt.below (PSt.below hP hB3) hB4, hF.below hB4, fun k hk => by omega, fun k hk => by omega, fun k h1 h2 => by omega⟩
  have hBw : Below w.heap.size w w4 := ((hB1.trans (hB2.mono s1)).trans (hB3.mono (by omega))).trans (hB4.mono (by omega))
  clear hP hF hB1 hB2 hB3 hB4 hR1 hC1 hRB2 hR0 hRB hC
  generalize hq : w2.heap.size = q at hT hpk
  go_wp2_with fail
  go_loopw [7] (fun i wr => ∃ (k : Nat) (s : St), k ≤ l.length ∧ i = .int .i64 k ∧ Two wr (fun k => w1.heap.size ≤ k ∧ k < q) (fun k => k < w.heap.size ∨ k = q) (some p) q s ∧ Below w.heap.size w wr) (fun i _ => l.length - (intOf i).toNat)
  case atStart => exact ⟨0, _, Nat.zero_le _, rfl, hT, hBw⟩
  case round =>
    clear hT hBw
    obtain ⟨k, s, hk, rfl, hT, hBw⟩ := hrel
    have hb9 : (l.length : Int) ≤ 140737488351232 := by omega
    by_cases hlt : k < l.length
    · have hlt' : (k : Int) < (l.length : Int) := by omega
      cases B with
      | none =>
        have := C_none hL
        subst this
        simp at hlt
      | some ad =>
      obtain ⟨A1, e1, A2, e2, hcell, hCl, hCt⟩ := oq_at (Kd.C_below hL hBw) hlt
      have hTd := hT.below (below_drew (Below.refl _ _))
      have hadb : (ad.add (k * 7)).block < w.heap.size := by
        obtain ⟨A1, e1, A2, e2, hcell, _, _⟩ := oq_at hL hlt
        have := World.block_lt_of_cell? w _ (hcell 0 _ rfl)
        rwa [block_of_add'] at this
      generalize l[k] = o at hcell hCl hCt
      go_wp2_with fail
      refine wp_region_plan [] (.take 0 (.take 1 (.take 2 (.take 3 (.take 4 (.take 5 (.run 6 (.take 7 (.take 8 (.take 9 (.take 11 (.run 10 (.run 12 (.take 13 (.take 14 (.take 15 (.take 16 (.take 18 (.take 19 (.take 20 (.take 21 (.run 17 (.take 22 (.take 23 (.take 24 (.take 25 (.take 27 (.run 26 (.run 28 (.take 29 (.take 30 .done))))))))))))))))))))))))))))))) (fun w' => ∀ j v, (o.cells A1 e1 A2 e2)[j]? = some v → w'.cell? ((ad.add (k * 7)).add j) = some v) (by kernel_rfl) (by kernel_rfl) (fun c a d v w h => by cases d <;> exact h) hcell ?_
      iterate 5 (apply plan_take rfl rfl; (case hy => (intro w' hS; clear hS; go_simp; try exact rfl)); go_simp)
      apply plan_take rfl rfl
      case hy =>
        intro w' hS
        refine exec_load_row 32 (.tmp 30) ?_ (ad.add (k * 7)) ?_ [.int .i64 o.kind, .int .u64 o.n, .string o.s, .slice A1 o.l.length e1, .slice A2 o.t.length e2, .int .i64 o.most, .int .i64 o.long] _ ?_ Try.underlying32 ?_ ?_
        · exact rfl
        · exact rfl
        · exact hS
        · exact rfl
        · kernel_rfl
      go_simp
      refine plan_run_on rfl rfl (fun K hK => ?_)
      go_simp
      refine (asked_any (A := A1) (c := e1) (A2 := A2) (c2 := e2) o hTd).mono ?_
      rintro e w5 ⟨rfl, h5, f5, c5⟩
      have hw5 : wr.drew.heap.size = wr.heap.size := rfl
      have g5 : ∀ j v, (o.cells A1 e1 A2 e2)[j]? = some v → w5.cell? ((ad.add (k * 7)).add j) = some v := fun j v hj => c5.cell_ (hcell j v hj) (fun e => by
        rw [block_of_add'] at e
        rcases e with e | e
        · injection e with e; omega
        · have := s1; omega)
      have h2E := f5.cellE
      generalize hs' : s.asks o = s' at h5 f5 h2E
      have T5 : Two w5 (fun k => w1.heap.size ≤ k ∧ k < q) (fun k => k < w.heap.size ∨ k = q) (some p) q s' := ⟨h5, f5, fun k hk => Nat.lt_of_lt_of_le (hTd.hp k hk) c5.size, fun k hk => Nat.lt_of_lt_of_le (hTd.hq k hk) c5.size, hTd.hap⟩
      have hB5 : Below w.heap.size w w5 := (below_drew hBw).trans (c5.below_ (B := w.heap.size) hBw.size (fun j hj => by
        rcases hj with e | e
        · injection e with e; omega
        · omega))
      refine hK (fun x => (∀ j v, (o.cells A1 e1 A2 e2)[j]? = some v → x.cell? ((ad.add (k * 7)).add j) = some v) ∧ x.cell? ⟨q, 2, none⟩ = some (.int .i64 s'.e)) _ _ (fun _ h => h.1) ⟨g5, h2E⟩ ?_
      clear hK K hT hTd h5 f5
      iterate 4 (apply plan_take rfl rfl; (case hy => (intro w' hS; clear hS; go_simp; try exact rfl)); go_simp)
      refine plan_run_on rfl rfl (fun K hK => ?_)
      go_simp
      refine (xLeft_any T5.rd).mono ?_
      rintro e w6 ⟨rfl, rfl⟩
      refine hK _ _ _ (fun _ h => h) ⟨g5, h2E⟩ ?_
      clear hK K
      refine plan_run_on rfl rfl (fun K hK => ?_)
      go_simp
      refine (fleft_any T5.rf).mono ?_
      rintro e w7 ⟨rfl, hB7⟩
      have T7 := T5.below hB7
      have g7 : ∀ j v, (o.cells A1 e1 A2 e2)[j]? = some v → w7.cell? ((ad.add (k * 7)).add j) = some v := fun j v hj => pw_cell_below hB7 (g5 j v hj)
      have h7E := T7.rf.cellE
      have hBw7 : Below w.heap.size w w7 := hB5.trans (hB7.mono hB5.size)
      refine hK _ _ _ (fun _ h => h) ⟨g7, h7E⟩ ?_
      clear hK K g5 h2E hB5 hB7 T5
      generalize s'.left = lf
      iterate 7 (apply plan_take rfl rfl; (case hy => (intro w' hS; clear hS; go_simp; try exact rfl)); go_simp)
      apply plan_take rfl rfl
      case hy => (intro w' hS; have e5 := hS.2; clear hS; go_simp; try exact rfl)
      go_simp
      refine plan_run_on rfl rfl (fun K hK => ?_)
      go_simp
      refine (xError_any T7.rd).mono ?_
      rintro e w8 ⟨rfl, rfl⟩
      refine hK _ _ _ (fun _ h => h) ⟨g7, h7E⟩ ?_
      clear hK K
      have hDr := xDone_any T7.rd
      have hDf := fdone_any T7.rf
      generalize s'.e = ee at h7E ⊢
      iterate 5 (apply plan_take rfl rfl; (case hy => (intro w' hS; clear hS; go_simp; try exact rfl)); go_simp)
      refine plan_run_on rfl rfl (fun K hK => ?_)
      go_simp
      refine hDr.mono ?_
      rintro e w8 ⟨rfl, rfl⟩
      refine hK _ _ _ (fun _ h => h) ⟨g7, h7E⟩ ?_
      clear hK K
      refine plan_run_on rfl rfl (fun K hK => ?_)
      go_simp
      refine hDf.mono ?_
      rintro e w9 ⟨rfl, hB9⟩
      have T9 := T7.below hB9
      have hBw9 : Below w.heap.size w w9 := hBw7.trans (hB9.mono hBw7.size)
      refine hK _ _ _ (fun _ h => h) ⟨fun j v hj => pw_cell_below hB9 (g7 j v hj), pw_cell_below hB9 h7E⟩ ?_
      clear hK K hDr hDf T7 hBw7 hB9
      have HT := hid (And.intro T9 hBw9)
      clear T9 hBw9 g7 h7E
      generalize s'.done = dd
      iterate 2 (apply plan_take rfl rfl; (case hy => (intro w' hS; clear hS; go_simp; try exact rfl)); go_simp)
      refine plan_done ?_
      go_wp2
      go_roundw
      case rel => exact ⟨k + 1, _, by omega, by go_num, HT.out⟩
      case measure => simp [intOf]; omega
    · obtain rfl : k = l.length := by omega
      go_wp2
      go_ret
      exact ⟨rfl, hBw⟩
end Go.Proofs.Ytiecljhgpbifjaa
