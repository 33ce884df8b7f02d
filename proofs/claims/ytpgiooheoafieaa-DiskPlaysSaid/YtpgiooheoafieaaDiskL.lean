/- The program's disk: Clone, Load. -/
import Derived.Test.YtpgiooheoafieaaDiskC
import Derived.Test.YtpgiooheoafieaaRefE
set_option linter.unusedVariables false
set_option linter.unusedSimpArgs false
namespace Go.Proofs.Ytpgiooheoafieaa
open Go.RowKit Go.Proofs.YtpgiooheoafieaaW.PrintWords

set_option maxRecDepth 100000 in
theorem clone_blocks {w : World} {g n cap : Nat} {xs : List Value} (h : w.ownsRow 0 126 64 (.slice (some ⟨g, 0, none⟩) n cap) n xs) (hn : n ≤ 4096) (hpos : 0 < n) (h1 : ∀ u ∈ xs, u.oneCell' = true) :
  Calls Try.prog 97 #[.slice (some ⟨g, 0, none⟩) n cap] w fun e w' => ∃ g2 cap2, e = .returned (.slice (some ⟨g2, 0, none⟩) n cap2) ∧ w'.ownsRow w.heap.size 126 64 (.slice (some ⟨g2, 0, none⟩) n cap2) n xs ∧ Below w.heap.size w w' := by
  have hq := fun w => Lib.run_eql_slice_nil (P := Try.prog) w 121 126 (some ⟨g, 0, none⟩) n cap 0 0 Try.underlying121
  have hz : ∃ i, Try.prog.info? 126 = some i ∧ i.zero = some (.agg (List.replicate 64 (Value.int .u8 0)).toArray) ∧ i.size = 64 ∧ i.bytes = 64 := by
    have h0 : (Try.prog.info? 126).map (fun i => (i.zero, i.size, i.bytes)) = some (some (.agg (List.replicate 64 (Value.int .u8 0)).toArray), 64, 64) := by kernel_rfl
    obtain ⟨i, hi, he⟩ := Option.map_eq_some_iff.1 h0
    simp only [Prod.mk.injEq] at he
    exact ⟨i, hi, he.1, he.2.1, he.2.2⟩
  obtain ⟨i0, hi, hz0, hz1, hz2⟩ := hz
  have hcells : ∀ o j u, xs[j]? = some u → (w.alloc o).cell? ((⟨g, 0, none⟩ : Addr).add j) = some u := fun o j u hu => by
    have := h.cells (g := g) rfl j u hu
    exact (World.cell?_alloc_lt w _ _ (World.block_lt_of_cell? w _ this)).trans this
  have hxl := h.1
  have HI := hid (And.intro hi (And.intro hz0 (And.intro hz1 hz2)))
  have HC := hid hcells
  have HX := hid hxl
  clear hi hz0 hz1 hz2 hcells hxl
  go_enter Try.func97, Try.ntmps97
  go_wp2_with (at_builtin; refine wpList_append_own_at (w := w.alloc (.cells #[] 126)) rfl (.tmp 5) (.tmp 6) 121 rfl w.heap.size 126 i0 _ 64 64 Try.underlying121 HI.out.1 HI.out.2.1 HI.out.2.2.1 HI.out.2.2.2 ?HZ (by decide) _ 0 [] rfl (World.ownsRow_made (base := w.heap.size) w #[] 0 (Nat.le_refl _) (Nat.zero_le _) rfl) ⟨g, 0, none⟩ n cap xs rfl HX.out (HC.out _) h1 ?h63 ?hby ?hbase ?_)
  case HZ => rfl
  case h63 => simp only [maxLen]; omega
  case hby => omega
  case hbase => simp
  intro v1 w1 ho hg _ _
  have ho' : w1.ownsRow w.heap.size 126 64 v1 n xs := by simpa using ho
  obtain ⟨g2, cap2, rfl, _, _⟩ := ho'.form hpos
  have hB : Below w.heap.size w w1 := (below_alloc (Below.refl w.heap.size w) (.cells #[] 126)).grown hg (by simp) (fun k hk => by simp [Value.ownBlock] at hk; omega)
  clear ho
  go_wp2
  go_ret
  exact ⟨g2, cap2, rfl, ho', hB⟩
set_option maxRecDepth 100000 in
set_option maxHeartbeats 1000000 in
theorem dclone_any {w : World} {ok : Nat → Prop} {p : Nat} {D : DM} (h : PDisk w ok p D) (hl : D.ws.length * 32 ≤ 140737488355328) :
  Calls Try.prog 77 #[.pointer (some ⟨p, 0, none⟩)] w fun e w' => ∃ q, e = .returned (.pointer (some ⟨q, 0, none⟩)) ∧ PDisk w' (fun k => w.heap.size ≤ k) q D ∧ Below w.heap.size w w' := by
  obtain ⟨hwf, g, cap, wv, hb⟩ := h
  obtain ⟨Aw, cw, rfl, hlew, hCw⟩ := Kd.R_reads hb.ws
  have c0 := hb.cell0
  have c1 := hb.cell1
  have c2 := hb.cell2
  have c3 := hb.cell3
  have hhi := hwf.hi
  have hlo := hwf.lo
  have hone : ∀ u ∈ nums .u8 D.b, u.oneCell' = true := fun u hu => by
    simp only [nums, List.mem_map] at hu; obtain ⟨q, _, rfl⟩ := hu; rfl
  go_enter Try.func77, Try.ntmps77
  go_wp2_with fail
  refine wp_region_plan [] (.take 0 (.take 1 (.take 2 (.take 3 (.take 5 (.take 6 (.take 7 (.take 8 (.take 9 (.take 10 (.take 11 (.take 12 (.take 13 (.take 14 (.take 15 (.take 16 (.run 4 (.run 17 (.take 18 (.run 19 (.take 20 .done))))))))))))))))))))) (fun w' => w'.cell? ⟨p, 0, none⟩ = some (.slice (some ⟨g, 0, none⟩) D.n cap) ∧ w'.cell? ⟨p, 1, none⟩ = some (.int .i64 D.left) ∧ w'.cell? ⟨p, 2, none⟩ = some (.bool D.gone) ∧ w'.cell? ⟨p, 3, none⟩ = some (.slice Aw D.ws.length cw)) (by kernel_rfl) (by kernel_rfl) (fun c a d v w h => by cases d <;> exact h) ⟨c0, c1, c2, c3⟩ ?_
  iterate 16 (apply plan_take rfl rfl; (case hy => (intro w' hS; obtain ⟨s0, s1, s2, s3⟩ := hS; go_simp; try exact rfl)); go_simp)
  refine plan_run_on rfl rfl (fun K hK => ?_)
  go_simp
  have hbd : PDb w.drew ok p D g cap (.slice Aw D.ws.length cw) := hb.step (fun _ _ _ => rfl)
  refine (clone_blocks hbd.row (by omega) (by omega) hone).mono ?_
  rintro e w2 ⟨g2, cap2, rfl, ho2, hB2'⟩
  have hB2 : Below w.heap.size w w2 := (below_drew (Below.refl w.heap.size w)).trans hB2'
  refine hK _ _ _ (fun _ h => h) ⟨pw_cell_below hB2 c0, pw_cell_below hB2 c1, pw_cell_below hB2 c2, pw_cell_below hB2 c3⟩ ?_
  clear hK K
  refine plan_run_on rfl rfl (fun K hK => ?_)
  go_simp
  refine (copied_any (c := cw) (Kd.C_below hCw hB2) hl (wf_short hwf)).mono ?_
  rintro e w3 ⟨A3, c3', rfl, hR3, hB3'⟩
  have hsz2 := hB2.size
  have hB3 : Below w.heap.size w w3 := hB2.trans (hB3'.mono hsz2)
  refine hK _ _ _ (fun _ h => h) ⟨pw_cell_below hB3 c0, pw_cell_below hB3 c1, pw_cell_below hB3 c2, pw_cell_below hB3 c3⟩ ?_
  clear hK K
  go_simp
  apply plan_take rfl rfl
  case hy => (intro w' hS; go_simp; try exact rfl)
  go_simp
  refine plan_run_on rfl rfl (fun K hK => ?_)
  go_simp
  have ho3 : w3.ownsRow w.heap.size 126 64 (.slice (some ⟨g2, 0, none⟩) D.n cap2) D.n (nums .u8 D.b) := own_move ho2 (fun k hk => hB3'.block k (own_lt ho2 k hk))
  have hg2 : w.heap.size ≤ g2 := own_base ho3 g2 rfl
  have hb4 : PDb (w3.alloc (.cells #[.slice (some ⟨g2, 0, none⟩) D.n cap2, .int .i64 D.left, .bool D.gone, .slice A3 D.ws.length c3'] 123)) (fun k => w.heap.size ≤ k) w3.heap.size D g2 cap2 (.slice A3 D.ws.length c3') :=
    ⟨hB3.size, hg2, heap_alloc_new w3 _, own_weaken (own_alloc ho3 _) (Nat.zero_le _), Kd.R_below (Kd.R_lower (Kd.R_mono hR3 (fun q hq => Nat.le_trans hsz2 hq)) (Nat.zero_le _)) (below_alloc (Below.refl _ _) _)⟩
  have hB4 := hB3.alloc hB3.size (.cells #[.slice (some ⟨g2, 0, none⟩) D.n cap2, .int .i64 D.left, .bool D.gone, .slice A3 D.ws.length c3'] 123)
  refine hK _ _ _ (fun _ h => h) ⟨pw_cell_below hB4 c0, pw_cell_below hB4 c1, pw_cell_below hB4 c2, pw_cell_below hB4 c3⟩ ?_
  clear hK K
  apply plan_take rfl rfl
  case hy => (intro w' hS; go_simp; try exact rfl)
  go_simp
  refine plan_done ?_
  generalize w3.alloc (.cells #[.slice (some ⟨g2, 0, none⟩) D.n cap2, .int .i64 D.left, .bool D.gone, .slice A3 D.ws.length c3'] 123) = w4 at hb4 hB4 ⊢
  generalize w3.heap.size = q at hb4 ⊢
  clear c0 c1 c2 c3
  go_wp2_with fail
  go_ret
  exact ⟨q, rfl, ⟨hwf, g2, cap2, _, hb4⟩, hB4⟩
/-! ### Load -/
def DM.load (b : List Int) : DM := ⟨b, -1, false, []⟩
theorem load_n {b : List Int} {n : Nat} (h : b.length = 64 * n) : (DM.load b).n = n := by simp only [DM.load, DM.n, h]; omega
theorem load_wf {b : List Int} {n : Nat} (h : b.length = 64 * n) (h1 : 16 ≤ n) (h2 : n ≤ 4096) (hB : Bytes b) : (DM.load b).wf :=
  ⟨by rw [load_n h]; exact h, by rw [load_n h]; exact h1, by rw [load_n h]; exact h2, by simp [DM.load], by simp [DM.load], hB, fun x hx => by simp [DM.load] at hx⟩
def loadS (b : List Int) (n k : Nat) : List Int := b.take (64 * k) ++ List.replicate (64 * n - 64 * k) 0
theorem loadS_len {b : List Int} {n k : Nat} (h : b.length = 64 * n) (hk : k ≤ n) : (loadS b n k).length = 64 * n := by
  simp only [loadS, List.length_append, List.length_take, List.length_replicate]; omega
theorem loadS_step {b : List Int} {n k : Nat} (h : b.length = 64 * n) (hk : k < n) : splice (loadS b n k) (k * 64) ((b.drop (64 * k)).take 64) = loadS b n (k + 1) := by
  have h1 : (b.take (64 * k)).length = 64 * k := by rw [List.length_take]; omega
  have h2 : ((b.drop (64 * k)).take 64).length = 64 := by rw [List.length_take, List.length_drop]; omega
  have e1 : (b.take (64 * k) ++ List.replicate (64 * n - 64 * k) 0).take (64 * k) = b.take (64 * k) := by rw [List.take_append_of_le_length (by omega), List.take_of_length_le (by omega)]
  have e2 : (b.take (64 * k) ++ List.replicate (64 * n - 64 * k) (0 : Int)).drop (64 * k + 64) = List.replicate (64 * n - 64 * (k + 1)) 0 := by
    rw [List.drop_append, List.drop_eq_nil_of_le (by omega), h1, List.nil_append, List.drop_replicate]
    congr 1
    omega
  unfold splice loadS
  rw [h2, Nat.mul_comm k 64, e1, e2, ← List.append_assoc, ← List.take_add, show 64 * (k + 1) = 64 * k + 64 by omega]
theorem add_add' (a : Addr) (i j : Nat) : (a.add i).add j = a.add (i + j) := by
  unfold Addr.add
  by_cases hi : i = 0 <;> by_cases hj : j = 0 <;> simp [hi, hj, Nat.add_assoc]
/-- A part of bytes that are read. -/
theorem C_part {w : World} {k : IntKind} {a : Addr} {n : Nat} {xs : List Int} (h : (Kd.int k).C w (some a) n xs) (off m : Nat) : ∀ j v, (nums k ((xs.drop off).take m))[j]? = some v → w.cell? ((a.add off).add j) = some v := by
  intro j v hj
  rw [add_add']
  apply cells_of_C h (off + j)
  simp only [nums, List.map_take, List.map_drop, List.getElem?_take, List.getElem?_drop] at hj ⊢
  split at hj
  · exact hj
  · cases hj
set_option maxRecDepth 100000 in
set_option maxHeartbeats 1000000 in
theorem dload_ok {w : World} {a : Addr} {c : Nat} {b : List Int} (n : Nat) (hC : KB.C w (some a) b.length b) (hn : b.length = 64 * n) (h1 : 16 ≤ n) (h2 : n ≤ 4096) (hB : Bytes b) (hc : b.length ≤ c) (hc2 : c ≤ 9223372036854775807) :
  Calls Try.prog 30 #[.slice (some a) b.length c] w fun e w' => ∃ q, e = .returned (.tuple #[.pointer (some ⟨q, 0, none⟩), .int .i64 0]) ∧ PDisk w' (fun k => w.heap.size ≤ k) q (DM.load b) ∧ Below w.heap.size w w' := by
  have hq1 : ((b.length : Int)).tmod 64 = 0 := by rw [Int.tmod_eq_emod_of_nonneg (by omega)]; omega
  have hq2 : ((b.length : Int)).tdiv 64 = (n : Int) := by rw [Int.tdiv_eq_ediv_of_nonneg (by omega)]; omega
  have HN := hid hn
  go_enter Try.func30, Try.ntmps30
  go_wp2_with fail
  refine (new_ok n h1 h2).mono ?_
  rintro e w1 ⟨rfl, ⟨_, g, cap, wv, hb1⟩, hB1⟩
  have hnew : DM.new n = ⟨loadS b n 0, -1, false, []⟩ := by simp [DM.new, loadS]
  rw [hnew] at hb1
  have hLn : ∀ k, k ≤ n → (⟨loadS b n k, -1, false, []⟩ : DM).n = n := fun k hk => by simp only [DM.n, loadS_len HN.out hk]; omega
  have HLn := hid hLn
  have c0 := hb1.cell0
  rw [hLn 0 (by omega)] at c0
  have hqs : w.heap.size ≤ w.heap.size + 1 := by omega
  generalize w.heap.size + 1 = q at hb1 c0 hqs ⊢
  clear hnew hLn hq1 hq2
  go_wp2_with fail
  go_loopw [6, 26] (fun _ j wr => ∃ k : Nat, k ≤ n ∧ j = .int .i64 k ∧ PDb wr (fun k => w.heap.size ≤ k) q ⟨loadS b n k, -1, false, []⟩ g cap wv ∧ Below w.heap.size w wr) (fun _ j _ => n - (intOf j).toNat)
  case atStart => exact ⟨0, Nat.zero_le _, rfl, hb1, hB1⟩
  case round =>
    obtain ⟨k, hk, rfl, hbk, hBk⟩ := hrel
    clear c0
    by_cases hlt : k < n
    · have c0 := hbk.cell0
      rw [HLn.out k hk] at c0
      have hCk := Kd.C_below hC hBk
      have hw1 : IntKind.i64.wrap ((k : Int) * 64) = (k : Int) * 64 := IntWalk.i64_in _ (by omega)
      have hw2 : IntKind.i64.wrap ((k : Int) + 1) = (k : Int) + 1 := IntWalk.i64_in _ (by omega)
      have hw3 : IntKind.i64.wrap (((k : Int) + 1) * 64) = ((k : Int) + 1) * 64 := IntWalk.i64_in _ (by omega)
      have hw4 : 0 ≤ (k : Int) * 64 ∧ (k : Int) * 64 ≤ ((k : Int) + 1) * 64 ∧ ((k : Int) + 1) * 64 ≤ (c : Int) := by omega
      have hw7 : 0 ≤ ((k : Int) + 1) * 64 := by omega
      have hw8 : (k : Int) ≤ (k : Int) + 1 := by omega
      have hw10 : (k + 1) * 64 - k * 64 = 64 := by omega
      have hw9 : ¬ c = k * 64 := by omega
      have hw5 : ((k : Int) * 64).toNat = k * 64 := by omega
      have hw6 : (((k : Int) + 1) * 64).toNat = (k + 1) * 64 := by omega
      go_wp2_with fail
      refine wp_region_plan [14, 15] (.take 0 (.take 1 (.take 2 (.take 3 (.take 4 (.take 5 (.take 6 (.take 7 (.take 8 (.take 9 (.take 10 (.take 11 (.take 12 (.take 13 (.tail 14 (.tail 15 .done)))))))))))))))) (fun w' => w'.cell? ⟨q, 0, none⟩ = some (.slice (some ⟨g, 0, none⟩) n cap) ∧ Kd.C KB w' (some a) b.length b) (by kernel_rfl) (by kernel_rfl) (fun c a d v w h => by cases d <;> exact h) ⟨c0, hCk⟩ ?_
      iterate 12 (apply plan_take rfl rfl; (case hy => (intro w' hS; obtain ⟨s0, _⟩ := hS; go_simp; try exact rfl)); go_simp)
      apply plan_take rfl rfl
      case hy => 
        intro w' hS
        go_simp
        rw [run_arrayAt _ _ _ _ _ _ _ Try.underlying126 (Nat.le_refl 64)]
        exact rfl
      go_simp
      apply plan_take rfl rfl
      case hy => intro w' hS; exact exec_load_row 126 (.tmp 41) rfl (a.add (k * 64)) rfl (nums .u8 ((b.drop (k * 64)).take 64)) _ (C_part hS.2 _ _) Try.underlying126 rfl (by rw [nums_length, List.length_take, List.length_drop, show min 64 (b.length - k * 64) = 64 by omega]; exact info_block)
      go_simp
      have hrow := hbk.row
      rw [HLn.out k hk] at hrow
      have hxl : ((b.drop (k * 64)).take 64).length = 64 := by rw [List.length_take, List.length_drop]; omega
      have hstep := loadS_step HN.out hlt
      rw [Nat.mul_comm 64 k] at hstep
      generalize (b.drop (k * 64)).take 64 = xs at hxl hstep ⊢
      refine plan_tail rfl (fun K hK => ?_)
      go_simp
      refine hK _ _ ?_
      clear hK K
      refine plan_tail_on rfl rfl (fun K hK => ?_)
      refine wp_store_mid 126 (.tmp 43) (.tmp 42) rfl g (k * 64) (nums .u8 xs).toArray rfl rfl ?_ ?_ (nums_one _ _) ?_
      · exact own_there hrow _ (by simp [nums_length, hxl]; omega)
      · simp only [List.size_toArray, nums_length, hxl]; exact info_block
      go_simp
      refine hK _ _ (plan_done ?_)
      clear hK K c0 hrow
      have hbd : PDb wr.drew (fun k => w.heap.size ≤ k) q ⟨loadS b n k, -1, false, []⟩ g cap wv := hbk.step (fun _ _ _ => rfl)
      have hbn := hbd.setBytes (k * 64) xs (by rw [HLn.out k hk, hxl]; omega)
      have hBn : Below w.heap.size w (wr.drew.setCells g (k * 64) (nums .u8 xs)) :=
        ((Chg.of_below (below_drew hBk) none_).setCells (.inr hbk.okg) (k * 64) (nums .u8 xs)).below0
      simp only [] at hbn
      rw [hstep] at hbn
      generalize wr.drew.setCells g (k * 64) (nums .u8 xs) = W1 at hbn hBn ⊢
      clear hw1 hw2 hw3 hw4 hw5 hw6 hw7 hw8 hw9 hw10 hCk hbd hxl hstep
      go_wp2
      go_roundw
      case rel => exact ⟨k + 1, by omega, by go_num, hbn, hBn⟩
      case measure => simp [intOf]; omega
    · obtain rfl : k = n := by omega
      have hS : loadS b k k = b := by unfold loadS; rw [List.take_of_length_le (by omega)]; simp
      rw [hS] at hbk
      go_wp2
      go_ret2
      exact ⟨q, rfl, ⟨load_wf HN.out h1 h2 hB, g, cap, wv, hbk⟩, hBk⟩
end Go.Proofs.Ytpgiooheoafieaa
