/- The program's disk: Writes, Image. -/
import Derived.Test.YtekhmkfiepnnkaaDiskM
set_option linter.unusedVariables false
set_option linter.unusedSimpArgs false
namespace Go.Proofs.Ytekhmkfiepnnkaa
open Go.RowKit Go.Proofs.YtekhmkfiepnnkaaW.PrintWords

/-- Each recorded write is short enough to be copied. -/
def Short (l : List (Int × List Int)) : Prop := ∀ x ∈ l, x.2.length ≤ 140737488351232
set_option maxRecDepth 100000 in
set_option maxHeartbeats 1000000 in
theorem copied_any {w : World} {A : Option Addr} {c : Nat} {l : List (Int × List Int)} (h : KW.C w A l.length l) (hl : l.length * 32 ≤ 140737488355328) (hs : Short l) :
  Calls Try.prog 75 #[.slice A l.length c] w fun e w' => ∃ A' c', e = .returned (.slice A' l.length c') ∧ KW.R 77 w' w.heap.size (fun q => w.heap.size ≤ q) (.slice A' l.length c') l ∧ Below w.heap.size w w' := by
  go_enter Try.func75, Try.ntmps75
  go_wp2
  go_loopw [3, 8] (fun out i wr => ∃ k : Nat, k ≤ l.length ∧ i = .int .i64 k ∧ KW.R 77 wr w.heap.size (fun q => w.heap.size ≤ q) out (l.take k) ∧ Below w.heap.size w wr) (fun _ i _ => l.length - (intOf i).toNat)
  case atStart => exact ⟨0, Nat.zero_le _, rfl, Kd.R_nil _ _ _ _ _, Below.refl _ _⟩
  case round =>
    obtain ⟨k, hk, rfl, hR, hB⟩ := hrel
    by_cases hlt : k < l.length
    · obtain ⟨ad, cs, rfl, hcs, hK, hcell⟩ := Kd.C_get (Kd.C_below h hB) (0, []) (k : Int) (by omega) (by omega)
      simp only [Int.toNat_natCast] at hK hcell
      have hget : l.getD k (0, []) = l[k] := by simp [List.getD_eq_getElem?_getD, hlt]
      rw [hget] at hK
      obtain ⟨c0, c1, rfl, h0, A1, cap1, h1, hle, hC1⟩ := hK
      obtain rfl : c0 = [.int .i64 l[k].1] := h0
      subst h1
      have hc2 : ∀ j v, ([Value.int .i64 l[k].1] ++ [Value.slice A1 l[k].2.length cap1])[j]? = some v → wr.cell? ((ad.add (k * 2)).add j) = some v := by
        intro j v hj
        have h3 := hcell j v hj
        have hadd : (ad.add (k * 2)).add j = ad.add (k * 2 + j) := by
          unfold Addr.add
          by_cases e1 : k * 2 = 0 <;> by_cases e2 : j = 0 <;> simp [e1, e2, Nat.add_assoc]
        rw [hadd]
        exact h3
      have hsl := hs l[k] (List.getElem_mem hlt)
      have hb9 : (l.length : Int) ≤ 9223372036854775807 := by omega
      have hsz : w.heap.size ≤ wr.heap.size := hB.size
      go_wp2_with (refine wpList_load_addr rfl 77 (.tmp 10) rfl (ad.add (k * 2)) rfl _ _ hc2 Try.underlying77 rfl (by kernel_rfl) ?_)
      refine wp_region_plan [] (.take 0 (.take 1 (.take 2 (.take 3 (.take 4 (.run 5 (.take 6 (.run 7 (.run 8 (.take 9 .done)))))))))) (fun w' => w'.cell? ⟨wr.heap.size, 0, none⟩ = some (.int .i64 l[k].1) ∧ w'.cell? ⟨wr.heap.size, 1, none⟩ = some (.slice A1 l[k].2.length cap1)) (by kernel_rfl) (by kernel_rfl) (fun c a d v w h => by cases d <;> exact h) ?_ ?_
      · constructor <;> (go_simp)
      iterate 5 (apply plan_take rfl rfl; (case hy => (intro w' hS; obtain ⟨s0, s1⟩ := hS; go_simp; try exact rfl)); go_simp)
      refine plan_run_on rfl rfl (fun K hK => ?_)
      go_simp
      have hCa : KB.C (wr.alloc (.cells #[.int .i64 l[k].1, .slice A1 l[k].2.length cap1] 77)).drew A1 l[k].2.length l[k].2 := Kd.C_below hC1 (below_drew (below_alloc (Below.refl _ _) _))
      refine (clone_any hCa hsl).mono ?_
      rintro e w2 ⟨A2, c2, rfl, hR2, hB2⟩
      have hB2' : Below wr.heap.size wr w2 := below_step (below_drew (below_alloc (Below.refl wr.heap.size wr) (.cells #[.int .i64 l[k].1, .slice A1 l[k].2.length cap1] 77))) hB2
      have hRo := Kd.R_below hR hB2'
      have hsz2 : wr.heap.size + 1 ≤ w2.heap.size := by have := hB2.size; simpa using this
      have hlt3 : ∀ q, u3.ownBlock = some q → q < wr.heap.size := by
        obtain ⟨_, _, ho, _⟩ := hR
        exact fun q hq => own_lt ho q hq
      have hS2 : w2.cell? ⟨wr.heap.size, 0, none⟩ = some (.int .i64 l[k].1) ∧ w2.cell? ⟨wr.heap.size, 1, none⟩ = some (.slice A1 l[k].2.length cap1) :=
        ⟨(hB2.cell (by simp)).trans (by go_simp), (hB2.cell (by simp)).trans (by go_simp)⟩
      refine hK _ _ _ (fun _ h => h) hS2 ?_
      clear hK K
      go_simp
      apply plan_take rfl rfl
      case hy => (intro w' hS; go_simp; try exact rfl)
      go_simp
      refine plan_run_on rfl rfl (fun K hK => ?_)
      go_simp
      have hB3 := below_alloc (Below.refl w2.heap.size w2) (.cells #[.int .i64 l[k].1, .slice A2 l[k].2.length c2] 77)
      refine hK _ _ _ (fun _ h => h) ⟨pw_cell_below hB3 hS2.1, pw_cell_below hB3 hS2.2⟩ ?_
      clear hK K
      refine plan_run rfl (fun K hK => ?_)
      refine Kd.R_append_step KW (w0 := w2) w.heap.size rfl (.tmp 12) (.tmp 19) 74 77 (.agg #[.int .i64 0, .slice none 0 0]) 32 rfl Try.underlying74 info_Write rfl (by decide) (by decide) u3 (l.take k) (l[k].1, l[k].2) [.int .i64 l[k].1, .slice A2 l[k].2.length c2]
        (fun q => w.heap.size ≤ q) (fun q => wr.heap.size < q) rfl rfl ⟨_, _, rfl, rfl, _, rfl, Kd.R_lower (Kd.R_mono hR2 (fun q hq => Nat.lt_of_succ_le (by simpa using hq))) (by simp; omega)⟩ (fun q hq => ⟨by omega, fun e => by have := hlt3 q e.symm; omega⟩) (fun q hq => by omega) hRo (Below.refl _ _ |>.mono (by omega)) (by omega) (by simp; omega) ?_
      intro v3 w3 hR4 _ hg3 _
      have hn8 : ∀ j, some (⟨wr.heap.size, j, none⟩ : Addr).block ≠ u3.ownBlock := fun j e => by have := hlt3 _ e.symm; simp at this
      refine hK _ _ _ (fun _ h => h) ⟨hg3.cell hS2.1 (hn8 0), hg3.cell hS2.2 (hn8 1)⟩ ?_
      clear hK K
      go_simp
      apply plan_take rfl rfl
      case hy => (intro w' hS; go_simp; try exact rfl)
      go_simp
      refine plan_done ?_
      have htake : l.take k ++ [(l[k].1, l[k].2)] = l.take (k + 1) := by rw [List.take_succ_eq_append_getElem hlt]
      rw [htake] at hR4
      have hBn : Below w.heap.size w w3 := (hB.trans (hB2'.mono hsz)).grown hg3 (by omega) (fun q hq => by
        obtain ⟨_, _, ho, _⟩ := hR
        exact own_base ho q hq)
      clear hS2 hB3 hn8
      go_wp2
      go_roundw
      case rel => exact ⟨k + 1, by omega, by go_num, hR4, hBn⟩
      case measure => simp [intOf]; omega
    · obtain rfl : k = l.length := by omega
      rw [List.take_length] at hR
      obtain ⟨A', c', rfl⟩ := Kd.R_slice hR
      go_wp2
      go_ret
      exact ⟨A', c', rfl, hR, hB⟩

theorem wf_short {D : DM} (h : D.wf) : Short D.ws := fun x hx => by rw [(h.wsB x hx).2.1]; omega
theorem writes_any {w : World} {ok : Nat → Prop} {p : Nat} {D : DM} (h : PDisk w ok p D) (hl : D.ws.length * 32 ≤ 140737488355328) :
  Calls Try.prog 38 #[.pointer (some ⟨p, 0, none⟩)] w fun e w' => ∃ A' c', e = .returned (.slice A' D.ws.length c') ∧ KW.R 77 w' w.heap.size (fun q => w.heap.size ≤ q) (.slice A' D.ws.length c') D.ws ∧ Below w.heap.size w w' := by
  obtain ⟨hwf, g, cap, wv, hb⟩ := h
  obtain ⟨A, c, rfl, _, hC⟩ := Kd.R_reads hb.ws
  have c3 := hb.cell3
  have hc := copied_any (c := c) hC hl (wf_short hwf)
  go_enter Try.func38, Try.ntmps38
  go_wp2_with (go_at_call 75; refine hc.mono ?_; rintro e w1 ⟨A', c', rfl, hR, hB⟩)
  go_ret
  exact ⟨A', c', rfl, hR, hB⟩

set_option maxRecDepth 100000 in
set_option maxHeartbeats 1000000 in
theorem image_any {w : World} {ok : Nat → Prop} {p : Nat} {D : DM} (h : PDisk w ok p D) :
  Calls Try.prog 34 #[.pointer (some ⟨p, 0, none⟩)] w fun e w' => ∃ A' c', e = .returned (.slice A' D.b.length c') ∧ KB.R 5 w' w.heap.size (fun q => w.heap.size ≤ q) (.slice A' D.b.length c') D.b ∧ Below w.heap.size w w' := by
  obtain ⟨hwf, g, cap, wv, hb⟩ := h
  have c0 := hb.cell0
  have hlen := hwf.len
  have hhi := hwf.hi
  go_enter Try.func34, Try.ntmps34
  go_wp2
  go_loopw [3, 13] (fun out i wr => ∃ k : Nat, k ≤ D.n ∧ i = .int .i64 k ∧ KB.R 5 wr w.heap.size (fun q => w.heap.size ≤ q) out (D.b.take (64 * k)) ∧ Below w.heap.size w wr) (fun _ i _ => D.n - (intOf i).toNat)
  case atStart => exact ⟨0, Nat.zero_le _, rfl, Kd.R_nil _ _ _ _ _, Below.refl _ _⟩
  case round =>
    obtain ⟨k, hk, rfl, hR, hB⟩ := hrel
    by_cases hlt : k < D.n
    · have hl := blk_length hwf hlt
      have hsz : w.heap.size ≤ wr.heap.size := hB.size
      have hst := storeCells64 hl
      have hl2 : (nums .u8 (D.blk k)).length = 64 := by rw [nums_length, hl]
      have hcells : ∀ j v, (nums .u8 (D.blk k))[j]? = some v → wr.cell? ((⟨g, k * 64, none⟩ : Addr).add j) = some v := by
        intro j v hj
        rw [Addr.add_mid]
        refine pw_cell_below hB ?_
        apply own_rangeAt hb.row (k * 64) 64 j v
        rw [← hj]
        simp only [DM.blk, nums, List.map_take, List.map_drop]
      have hbx : (D.n : Int) ≤ 4096 := by omega
      have HL := hid hlen
      clear hlen
      go_wp2_with (first | (refine wpList_load_addr rfl 125 (.tmp 15) rfl ⟨g, k * 64, none⟩ rfl (nums .u8 (D.blk k)) _ hcells Try.underlying125 rfl (by rw [nums_length, hl]; exact info_block) ?_) | (at_builtin; refine print_append_row (w0 := wr) w.heap.size rfl (.tmp 17) (.tmp 18) 22 5 .u8 1 rfl Try.underlying22 info_u8 (by decide) _ (D.b.take (64 * k)) (D.blk k) (some ⟨wr.heap.size, 0, none⟩) 64 64 rfl rfl ?HO ?HR ?HB ?hb ?hl ?_))
      case HO => exact R_own1 (Kd.R_below hR (below_alloc (Below.refl _ _) _))
      case HR => have h3 := reads_new wr 125 .u8 (D.blk k) (by omega); rw [hl] at h3; exact h3
      case HB => exact below_alloc (Below.refl _ _) _ |>.mono hsz
      case hb => simp; omega
      case hl => simp; omega
      intro v1 w1 ho hb1 hg hat
      have htake : D.b.take (64 * k) ++ D.blk k = D.b.take (64 * (k + 1)) := by
        rw [DM.blk, Nat.mul_comm k 64, show 64 * (k + 1) = 64 * k + 64 from by omega, List.take_add]
      rw [htake] at ho
      have e1 : min (64 * k) D.b.length + 64 = (D.b.take (64 * (k + 1))).length := by have := HL.out; rw [List.length_take]; omega
      rw [e1] at ho
      have hBn : Below w.heap.size w w1 := hB.trans hb1
      have hRn : KB.R 5 w1 w.heap.size (fun q => w.heap.size ≤ q) v1 (D.b.take (64 * (k + 1))) := Rown ho (fun q hq => own_base ho q hq)
      clear ho
      go_wp2
      go_roundw
      case rel => exact ⟨k + 1, by omega, by go_num, hRn, hBn⟩
      case measure => simp [intOf]; omega
    · obtain rfl : k = D.n := by omega
      rw [← hlen, List.take_length] at hR
      obtain ⟨A', c', rfl⟩ := Kd.R_slice hR
      clear hlen
      go_wp2
      go_ret
      exact ⟨A', c', rfl, hR, hB⟩
end Go.Proofs.Ytekhmkfiepnnkaa
