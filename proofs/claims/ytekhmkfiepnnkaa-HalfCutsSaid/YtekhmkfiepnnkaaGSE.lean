/- Texts of one seat, laid together. -/
import Derived.Deep.DeepCutAuto
import Derived.Test.YtekhmkfiepnnkaaGSD
import Derived.Test.YtekhmkfiepnnkaaGSB

/- Law 23: HalfNils. -/
set_option linter.unusedVariables false
set_option linter.unusedSimpArgs false
namespace Go.Proofs.Ytekhmkfiepnnkaa
open Go.RowKit Go.Shelf Go.Proofs.YtekhmkfiepnnkaaW.PrintWords Go.Proofs.YtekhmkfiepnnkaaW.PrintMore

set_option maxRecDepth 100000 in
set_option maxHeartbeats 8000000 in
theorem halfNils_any {w : World} (o : Op23) (base size : Int) (hn : -9223372036854775808 ≤ o.n ∧ o.n ≤ 9223372036854775807) : Calls Try.prog 12 #[.agg o.cells, .int .i64 base, .int .i64 size] w fun e w' => e = .returned (.bool true) ∧ Below w.heap.size w w' := by
  have hb1 := heap_alloc_new w (.cells o.cells 84)
  have hB1 := below_alloc (Below.refl w.heap.size w) (.cells o.cells 84)
  unfold Op23.cells at hb1 hB1 ⊢
  have hby := fun W : World => bytes23_any (w := W) o
  unfold Op23.cells at hby
  have hco : Try.prog.cellsOf 5 = 1 := by kernel_rfl
  go_enter Try.func12, Try.ntmps12
  go_wp2_with fail
  refine (hnew_nil base size o.gen).mono ?_
  rintro e w1 ⟨rfl, rfl⟩
  go_wp2_with fail
  refine (hopen_nil base size o.gen).mono ?_
  rintro e w2 ⟨rfl, hB2⟩
  have hb2 := (hB2.block _ (blk_lt hb1)).trans hb1
  have hBB := hB1.trans (hB2.mono hB1.size)
  generalize w.alloc (.cells #[.int .i64 o.kind, .int .i64 o.of_, .int .i64 o.n, .int .u8 o.fill, .int .u64 o.gen] 84) = w1 at hb1 hB1 hB2
  clear hb1 hB1 hB2
  go_wp2_with fail
  refine wp_region_plan [] (.take 0 (.take 1 (.take 2 (.take 3 (.take 4 (.take 5 (.take 6 (.take 7 (.take 8 (.take 9 (.take 10 (.run 11 (.run 12 (.take 13 (.take 14 (.take 15 (.take 16 (.take 17 (.take 18 (.run 19 (.take 20 (.take 21 (.take 22 (.take 23 (.run 24 (.take 25 (.take 26 (.take 27 (.take 28 (.run 29 (.take 30 (.take 31 (.take 32 (.take 33 (.run 34 (.take 35 (.take 36 (.take 37 (.take 38 (.run 39 (.take 40 (.take 41 (.take 42 (.run 43 (.take 44 (.take 45 .done)))))))))))))))))))))))))))))))))))))))))))))) (fun w' => w'.heap[w.heap.size]? = some (.cells #[.int .i64 o.kind, .int .i64 o.of_, .int .i64 o.n, .int .u8 o.fill, .int .u64 o.gen] 84 (0, 0)) ∧ Below w.heap.size w w') (by kernel_rfl) (by kernel_rfl) (fun c a d v w h => by cases d <;> exact h) ⟨hb2, hBB.drew⟩ ?_
  have hb3 : w2.drew.heap[w.heap.size]? = _ := hb2
  have hB3 := hBB.drew
  clear hb2 hBB
  generalize w2.drew = v0 at hb3 hB3 ⊢
  iterate 11 (apply plan_take rfl rfl; (case hy => (intro w' hS; have e0 := cell_of_row _ _ 0 _ _ _ hS.1; have e1 := cell_of_row _ _ 1 _ _ _ hS.1; have e2 := cell_of_row _ _ 2 _ _ _ hS.1; have e3 := cell_of_row _ _ 3 _ _ _ hS.1; have e4 := cell_of_row _ _ 4 _ _ _ hS.1; clear hS; simp at e0 e1 e2 e3 e4; go_simp; try exact rfl)); go_simp)
  refine plan_run_on rfl rfl (fun K hK => ?_)
  go_simp
  refine (hby _).mono ?_
  rintro e v1 ⟨rfl, _, hQ⟩
  replace hb3 := (hQ.block _ (blk_lt hb3)).trans hb3
  replace hB3 := hB3.trans (hQ.mono hB3.size)
  clear hQ
  refine hK _ _ _ (fun _ h => h) ⟨hb3, hB3⟩ ?_
  clear hK K
  go_simp
  refine plan_run_on rfl rfl (fun K hK => ?_)
  go_simp
  refine (hput_nil o.of_ _ _ _).mono ?_
  rintro e v' ⟨rfl, rfl⟩
  refine hK _ _ _ (fun _ h => h) ⟨hb3, hB3⟩ ?_
  clear hK K
  go_simp
  iterate 6 (apply plan_take rfl rfl; (case hy => (intro w' hS; have e0 := cell_of_row _ _ 0 _ _ _ hS.1; have e1 := cell_of_row _ _ 1 _ _ _ hS.1; have e2 := cell_of_row _ _ 2 _ _ _ hS.1; have e3 := cell_of_row _ _ 3 _ _ _ hS.1; have e4 := cell_of_row _ _ 4 _ _ _ hS.1; clear hS; simp at e0 e1 e2 e3 e4; go_simp; try exact rfl)); go_simp)
  refine plan_run_on rfl rfl (fun K hK => ?_)
  go_simp
  refine (fits_nil o.n hn).mono ?_
  rintro e v2 ⟨rfl, hQ⟩
  replace hb3 := (hQ.block _ (blk_lt hb3)).trans hb3
  replace hB3 := hB3.trans (hQ.mono hB3.size)
  clear hQ
  refine hK _ _ _ (fun _ h => h) ⟨hb3, hB3⟩ ?_
  clear hK K
  go_simp
  iterate 4 (apply plan_take rfl rfl; (case hy => (intro w' hS; have e0 := cell_of_row _ _ 0 _ _ _ hS.1; have e1 := cell_of_row _ _ 1 _ _ _ hS.1; have e2 := cell_of_row _ _ 2 _ _ _ hS.1; have e3 := cell_of_row _ _ 3 _ _ _ hS.1; have e4 := cell_of_row _ _ 4 _ _ _ hS.1; clear hS; simp at e0 e1 e2 e3 e4; go_simp; try exact rfl)); go_simp)
  refine plan_run_on rfl rfl (fun K hK => ?_)
  go_simp
  refine (used_nil).mono ?_
  rintro e v' ⟨rfl, rfl⟩
  refine hK _ _ _ (fun _ h => h) ⟨hb3, hB3⟩ ?_
  clear hK K
  go_simp
  iterate 4 (apply plan_take rfl rfl; (case hy => (intro w' hS; have e0 := cell_of_row _ _ 0 _ _ _ hS.1; have e1 := cell_of_row _ _ 1 _ _ _ hS.1; have e2 := cell_of_row _ _ 2 _ _ _ hS.1; have e3 := cell_of_row _ _ 3 _ _ _ hS.1; have e4 := cell_of_row _ _ 4 _ _ _ hS.1; clear hS; simp at e0 e1 e2 e3 e4; go_simp; try exact rfl)); go_simp)
  refine plan_run_on rfl rfl (fun K hK => ?_)
  go_simp
  refine (room_nil).mono ?_
  rintro e v3 ⟨rfl, hQ⟩
  replace hb3 := (hQ.block _ (blk_lt hb3)).trans hb3
  replace hB3 := hB3.trans (hQ.mono hB3.size)
  clear hQ
  refine hK _ _ _ (fun _ h => h) ⟨hb3, hB3⟩ ?_
  clear hK K
  go_simp
  iterate 4 (apply plan_take rfl rfl; (case hy => (intro w' hS; have e0 := cell_of_row _ _ 0 _ _ _ hS.1; have e1 := cell_of_row _ _ 1 _ _ _ hS.1; have e2 := cell_of_row _ _ 2 _ _ _ hS.1; have e3 := cell_of_row _ _ 3 _ _ _ hS.1; have e4 := cell_of_row _ _ 4 _ _ _ hS.1; clear hS; simp at e0 e1 e2 e3 e4; go_simp; try exact rfl)); go_simp)
  refine plan_run_on rfl rfl (fun K hK => ?_)
  go_simp
  refine (count_nil).mono ?_
  rintro e v' ⟨rfl, rfl⟩
  refine hK _ _ _ (fun _ h => h) ⟨hb3, hB3⟩ ?_
  clear hK K
  go_simp
  iterate 4 (apply plan_take rfl rfl; (case hy => (intro w' hS; have e0 := cell_of_row _ _ 0 _ _ _ hS.1; have e1 := cell_of_row _ _ 1 _ _ _ hS.1; have e2 := cell_of_row _ _ 2 _ _ _ hS.1; have e3 := cell_of_row _ _ 3 _ _ _ hS.1; have e4 := cell_of_row _ _ 4 _ _ _ hS.1; clear hS; simp at e0 e1 e2 e3 e4; go_simp; try exact rfl)); go_simp)
  refine plan_run_on rfl rfl (fun K hK => ?_)
  go_simp
  refine (hgen_nil).mono ?_
  rintro e v' ⟨rfl, rfl⟩
  refine hK _ _ _ (fun _ h => h) ⟨hb3, hB3⟩ ?_
  clear hK K
  go_simp
  iterate 3 (apply plan_take rfl rfl; (case hy => (intro w' hS; have e0 := cell_of_row _ _ 0 _ _ _ hS.1; have e1 := cell_of_row _ _ 1 _ _ _ hS.1; have e2 := cell_of_row _ _ 2 _ _ _ hS.1; have e3 := cell_of_row _ _ 3 _ _ _ hS.1; have e4 := cell_of_row _ _ 4 _ _ _ hS.1; clear hS; simp at e0 e1 e2 e3 e4; go_simp; try exact rfl)); go_simp)
  refine plan_run_on rfl rfl (fun K hK => ?_)
  go_simp
  refine (alive_any).mono ?_
  rintro e v4 ⟨rfl, hQ⟩
  replace hb3 := (hQ.block _ (blk_lt hb3)).trans hb3
  replace hB3 := hB3.trans (hQ.mono hB3.size)
  clear hQ
  refine hK _ _ _ (fun _ h => h) ⟨hb3, hB3⟩ ?_
  clear hK K
  go_simp
  iterate 2 (apply plan_take rfl rfl; (case hy => (intro w' hS; have e0 := cell_of_row _ _ 0 _ _ _ hS.1; have e1 := cell_of_row _ _ 1 _ _ _ hS.1; have e2 := cell_of_row _ _ 2 _ _ _ hS.1; have e3 := cell_of_row _ _ 3 _ _ _ hS.1; have e4 := cell_of_row _ _ 4 _ _ _ hS.1; clear hS; simp at e0 e1 e2 e3 e4; go_simp; try exact rfl)); go_simp)
  refine plan_done ?_
  go_wp2_with fail
  go_ret
  exact ⟨rfl, hB3⟩
end Go.Proofs.Ytekhmkfiepnnkaa

/- Law 23: an Op as an argument; HalfNils at every input. -/
set_option linter.unusedVariables false
set_option linter.unusedSimpArgs false
namespace Go.Proofs.Ytekhmkfiepnnkaa
open Go.RowKit Go.Proofs.YtekhmkfiepnnkaaW.PrintWords

structure Op23.ok (o : Op23) : Prop where
  k : -9223372036854775808 ≤ o.kind ∧ o.kind ≤ 9223372036854775807
  of_ : -9223372036854775808 ≤ o.of_ ∧ o.of_ ≤ 9223372036854775807
  n : -9223372036854775808 ≤ o.n ∧ o.n ≤ 9223372036854775807
  f : 0 ≤ o.fill ∧ o.fill < 256
  g : 0 ≤ o.gen ∧ o.gen < 18446744073709551616
abbrev KOp23 : Kd Op23 := Kd.iso (Kd.pair (Kd.int .i64) (Kd.pair (Kd.int .i64) (Kd.pair (Kd.int .i64) (Kd.pair (Kd.int .u8) (Kd.int .u64))))) (fun x : Op23 => (x.kind, x.of_, x.n, x.fill, x.gen))
theorem KOp23_open {w : World} {o : Op23} {cs : List Value} (h : KOp23.K w o cs) : cs = o.cells.toList := by
  obtain ⟨c0, cs1, rfl, h0, c1, cs2, rfl, h1, c2, cs3, rfl, h2, c3, c4, rfl, h3, h4⟩ := h
  obtain rfl : c0 = [.int .i64 o.kind] := h0
  obtain rfl : c1 = [.int .i64 o.of_] := h1
  obtain rfl : c2 = [.int .i64 o.n] := h2
  obtain rfl : c3 = [.int .u8 o.fill] := h3
  obtain rfl : c4 = [.int .u64 o.gen] := h4
  rfl
theorem opens_op23 : Opens Try.prog 84 KOp23 Op23.ok := by
  refine (opens_iso (P := Try.prog) (t := 84) (fun x : Op23 => (x.kind, x.of_, x.n, x.fill, x.gen)) (fun p => ⟨p.1, p.2.1, p.2.2.1, p.2.2.2.1, p.2.2.2.2⟩) (fun _ => rfl)
    (opens_struct Try.underlying84 (by kernel_rfl) (opensF_cons rfl (by kernel_rfl) (opens_int Try.underlying3) (opensF_cons rfl (by kernel_rfl) (opens_int Try.underlying3) (opensF_cons rfl (by kernel_rfl) (opens_int Try.underlying3)
      (opensF_cons rfl (by kernel_rfl) (opens_int Try.underlying5) (opensF_one rfl (by kernel_rfl) (opens_int Try.underlying23)))))))).mono ?_
  rintro o ⟨h0, h1, h2, h3, h4⟩
  have b0 := bounds_i64 h0
  have b1 := bounds_i64 h1
  have b2 := bounds_i64 h2
  have b3 := bounds_u8 h3
  have b4 := bounds_u64 h4
  dsimp only at b3 b4
  exact ⟨b0, b1, b2, by omega, by omega⟩
theorem halfNils_row {W : World} {o : Op23} {cs : Array Value} (h : KOp23.K W o cs.toList) (g : o.ok) (base size : Int) :
    Calls Try.prog 12 #[.agg cs, .int .i64 base, .int .i64 size] W fun e w' => e = .returned (.bool true) ∧ Below W.heap.size W w' := by
  obtain rfl : cs = o.cells := by
    have := KOp23_open h
    exact Array.toList_inj.1 this
  exact halfNils_any o base size g.n
end Go.Proofs.Ytekhmkfiepnnkaa

/- Law 23: told, where it is so. -/
set_option linter.unusedVariables false
set_option linter.unusedSimpArgs false
namespace Go.Proofs.Ytekhmkfiepnnkaa
open Go.RowKit Go.Shelf Go.Proofs.YtekhmkfiepnnkaaW.PrintWords Go.Proofs.YtekhmkfiepnnkaaW.PrintMore

abbrev KWant : Kd (Int × ByteArray) := Kd.pair (Kd.int .i64) Kd.string
theorem want_at {w : World} {ad : Addr} {l : List (Int × ByteArray)} (h : KWant.C w (some ad) l.length l) {i : Nat} (hi : i < l.length) :
    w.cell? ((ad.add (i * 2)).add 0) = some (.int .i64 l[i].1) ∧ w.cell? ((ad.add (i * 2)).add 1) = some (.string l[i].2) := by
  obtain ⟨ad', cs, hA, hcs, hK, hcell⟩ := Kd.C_get h (0, ByteArray.empty) (i : Int) (by omega) (by omega)
  injection hA with hA
  subst hA
  simp only [Int.toNat_natCast] at hK hcell
  have hget : l.getD i (0, ByteArray.empty) = l[i] := by simp [List.getD_eq_getElem?_getD, hi]
  rw [hget] at hK
  obtain ⟨c0, c1, rfl, h0, h1⟩ := hK
  obtain rfl : c0 = [.int .i64 l[i].1] := h0
  obtain rfl : c1 = [.string l[i].2] := h1
  refine ⟨?_, ?_⟩
  · have h3 := hcell 0 _ rfl
    rw [add_add']
    exact h3
  · have h3 := hcell 1 _ rfl
    rw [add_add']
    exact h3
set_option maxRecDepth 100000 in
set_option maxHeartbeats 4000000 in
theorem told_any {w : World} {g1 g2 c1 c2 : Nat} {l : List SR} {ws : List (Int × ByteArray)} (h1 : KRec.C w (some ⟨g1, 0, none⟩) l.length l) (h2 : KWant.C w (some ⟨g2, 0, none⟩) ws.length ws) (he : ws = l.map (fun r => (r.kind, strOfNums r.bytes))) (hn : l.length ≤ 65536) :
    Calls Try.prog 45 #[.slice (some ⟨g1, 0, none⟩) l.length c1, .slice (some ⟨g2, 0, none⟩) ws.length c2] w fun e w' => e = .returned (.bool true) ∧ Below w.heap.size w w' := by
  have hlw : ws.length = l.length := by rw [he, List.length_map]
  obtain ⟨n, hnl⟩ : ∃ n, l.length = n := ⟨_, rfl⟩
  rw [hlw]
  rw [hlw] at h2
  rw [hnl] at h1 h2 hn ⊢
  have HL := hid (And.intro hlw hnl)
  have HE := hid he
  have H1 := hid h1
  have H2 := hid h2
  clear he hlw hnl h1 h2
  go_enter Try.func45, Try.ntmps45
  go_wp2_with fail
  go_loopw [5] (fun av wr => ∃ k : Nat, k ≤ n ∧ av = .int .i64 k ∧ Below w.heap.size w wr) (fun av _ => n - (intOf av).toNat)
  case atStart => exact ⟨0, Nat.zero_le _, rfl, Below.refl _ _⟩
  case round =>
    obtain ⟨k, hk, rfl, hB⟩ := hrel
    by_cases hlt : k < n
    · have hltI : (k : Int) < (n : Int) := by omega
      have hC1 : KRec.C wr (some ⟨g1, 0, none⟩) l.length l := by rw [HL.out.2]; exact Kd.C_below H1.out hB
      have hC2 : KWant.C wr (some ⟨g2, 0, none⟩) ws.length ws := by rw [HL.out.1, HL.out.2]; exact Kd.C_below H2.out hB
      have hkl : k < l.length := by rw [HL.out.2]; exact hlt
      have hkw : k < ws.length := by rw [HL.out.1]; exact hkl
      obtain ⟨A9, c9, hcell, hl9, hC9⟩ := rec_at hC1 hkl
      obtain ⟨m0, m1⟩ := want_at hC2 hkw
      have q2 := hcell 2 (.int .i64 l[k].kind) rfl
      have q3 := hcell 3 (.slice A9 l[k].bytes.length c9) rfl
      have e0 : ws[k].1 = l[k].kind := by simp [HE.out]
      have e1 : ws[k].2 = strOfNums l[k].bytes := by simp [HE.out]
      rw [e0] at m0
      rw [e1] at m1
      have hadd : ∀ g o j : Nat, (⟨g, o, none⟩ : Addr).add j = ⟨g, o + j, none⟩ := fun g o j => by unfold Addr.add; by_cases hj : j = 0 <;> simp [hj]
      rw [add_plain, hadd] at q2 q3 m0 m1
      simp at q2 q3 m0 m1
      clear hadd
      clear e0 e1 hcell hC1 hC2 hl9
      generalize l[k].kind = kd at q2 m0
      generalize l[k].bytes = bs at q3 m1 hC9
      go_wp2_with fail
      refine wp_region_plan [] (.take 0 (.take 1 (.take 2 (.take 3 (.take 4 (.take 5 (.take 6 (.take 7 (.take 8 (.take 9 (.take 10 (.take 11 (.take 12 (.take 13 (.take 14 (.take 15 (.take 16 (.take 17 (.take 18 (.take 19 (.take 20 (.take 21 (.take 22 (.take 23 (.take 24 .done))))))))))))))))))))))))) (fun w' => Below wr.heap.size wr w') (by kernel_rfl) (by kernel_rfl) (fun c a d v w h => by cases d <;> exact h) (below_drew (Below.refl _ _)) ?_
      iterate 25 (apply plan_take rfl rfl; (case hy => (intro w' hS; have f2 := pw_cell_below hS q2; have f3 := pw_cell_below hS q3; have f0 := pw_cell_below hS m0; have f1 := pw_cell_below hS m1; have fc := conv_str (c := c9) (Kd.C_below hC9 hS); clear hS; go_simp; try exact rfl)); go_simp)
      refine plan_done ?_
      go_wp2_with fail
      go_roundw
      case rel => exact ⟨k + 1, by omega, by go_num, hB.drew⟩
      case measure => simp [intOf]; omega
    · have hltI : ¬ (k : Int) < (n : Int) := by omega
      go_wp2
      go_ret
      exact ⟨rfl, hB⟩
end Go.Proofs.Ytekhmkfiepnnkaa

/- Package half: what Append makes of a log, at any power that is left. No Go function in sight. -/
set_option linter.unusedVariables false
set_option linter.unusedSimpArgs false
namespace Go.Proofs.Ytekhmkfiepnnkaa
open Go.RowKit Go.Proofs.YtekhmkfiepnnkaaW.PrintWords Go.Proofs.YtekhmkfiepnnkaaW.PrintMore

/-- What is known of an append that gets as far as the disk. -/
structure Putted (D D' : DM) (base size : Nat) (gen : Int) (l : List SR) (r : SR) (E : Int) : Prop where
  wf : D'.wf
  n : D'.n = D.n
  log : Log D' base size gen (if E = 0 then l ++ [r] else l)
  err : E = 0 ∨ (E = 61 ∧ D'.gone = true)
  gone : E = 0 → D'.gone = false
  left : D.left < 0 → E = 0 ∧ D'.left = D.left
  ws : D'.ws.length = D.ws.length + done_ D.left (bodies r + 1)
  all : E = 0 ↔ done_ D.left (bodies r + 1) = bodies r + 1
  right : r.right
  only : OnlyG D gen → OnlyG D' gen
theorem Log.append {D : DM} {base size : Nat} {gen : Int} {l : List SR} (h : Log D base size gen l) (hw : D.wf) (hg : D.gone = false) (hgen : 0 < gen ∧ gen < 18446744073709551616) {kind : Int} {bs : List Int} (hb : Bytes bs)
    (he : hputC ⟨base, size, gen, (tailOf l : Int), (l.length : Int)⟩ kind bs.length = 0) :
    Putted D (D.sealW base ⟨gen, (tailOf l : Int), kind, bs⟩).1 base size gen l ⟨gen, (tailOf l : Int), kind, bs⟩ (D.sealW base ⟨gen, (tailOf l : Int), kind, bs⟩).2 := by
  have hn := h.n
  have hfit := h.fit
  have hD := hw.hi
  obtain ⟨k1, k2, k3⟩ : (0 ≤ kind ∧ kind ≤ 255) ∧ bs.length ≤ 131072 ∧ fitsB ⟨base, size, gen, (tailOf l : Int), (l.length : Int)⟩ bs.length = true := by
    unfold hputC at he
    split at he
    · cases he
    · split at he
      · cases he
      · split at he
        · cases he
        · rename_i a1 a2 a3
          exact ⟨by omega, by omega, by simpa using a3⟩
  have hr : (⟨gen, (tailOf l : Int), kind, bs⟩ : SR).right := ⟨hgen, ⟨by show (0 : Int) ≤ (tailOf l : Int); omega, by show (tailOf l : Int) ≤ 65535; omega⟩, k1, hb, k2⟩
  have hnd := need_bodies (r := ⟨gen, (tailOf l : Int), kind, bs⟩) k2
  unfold fitsB at k3
  have k4 := of_decide_eq_true k3
  dsimp only at k4 hnd
  rw [hnd] at k4
  generalize hR : (⟨gen, (tailOf l : Int), kind, bs⟩ : SR) = r at hr k4 ⊢
  have hra : r.at_ = (tailOf l : Int) := by rw [← hR]
  have hrg : r.gen = gen := by rw [← hR]
  have hfit2 : tailOf l + (bodies r + 1) ≤ size := by omega
  obtain ⟨h1, h2⟩ := sealW_right hw hg hr (base := (base : Int)) (b := base + tailOf l) (by rw [hra]; simp) (by omega) (by omega) (by omega)
  have hm := done_le D.left (bodies r + 1)
  have hlog := h.put hr hrg hra hfit2 h2
  refine ⟨h2.wf, h2.n, ?_, ?_, ?_, ?_, ?_, ?_, hr, fun ho => ho.put hr hrg h2⟩
  · by_cases hd : done_ D.left (bodies r + 1) = bodies r + 1
    · rw [if_pos hd] at hlog
      have e0 : (D.sealW base r).2 = 0 := by rw [h1, if_neg (by omega)]
      rw [e0, if_pos rfl]
      exact hlog
    · rw [if_neg hd] at hlog
      have e0 : (D.sealW base r).2 = 61 := by rw [h1, if_pos (by omega)]
      rw [e0, if_neg (by omega)]
      exact hlog
  · rw [h1]
    by_cases hd : done_ D.left (bodies r + 1) < bodies r + 1
    · rw [if_pos hd]; exact .inr ⟨rfl, by rw [h2.gone]; simpa using hd⟩
    · rw [if_neg hd]; exact .inl rfl
  · intro hE
    rw [h1] at hE
    rw [h2.gone]
    by_cases hd : done_ D.left (bodies r + 1) < bodies r + 1
    · rw [if_pos hd] at hE; cases hE
    · simpa using hd
  · intro hl
    have hd : done_ D.left (bodies r + 1) = bodies r + 1 := by unfold done_; rw [if_pos hl]
    exact ⟨by rw [h1, if_neg (by omega)], by rw [h2.left, if_pos hl]⟩
  · rw [h2.ws, List.length_append, List.length_map, List.length_take, order_len]
    omega
  · rw [h1]
    constructor
    · intro hE
      by_cases hd : done_ D.left (bodies r + 1) < bodies r + 1
      · rw [if_pos hd] at hE; cases hE
      · omega
    · intro hd
      rw [if_neg (by omega)]
end Go.Proofs.Ytekhmkfiepnnkaa

/- Package half: Append on a log, in one contract. -/
set_option linter.unusedVariables false
set_option linter.unusedSimpArgs false
namespace Go.Proofs.Ytekhmkfiepnnkaa
open Go.RowKit Go.Proofs.YtekhmkfiepnnkaaW.PrintWords Go.Proofs.YtekhmkfiepnnkaaW.PrintMore

/-- What Append leaves of a log. -/
structure AppOut (D D' : DM) (base size : Nat) (gen : Int) (l l' : List SR) (kind : Int) (bs : List Int) (E : Int) : Prop where
  wf : D'.wf
  n : D'.n = D.n
  log : Log D' base size gen l'
  yes : E = 0 → l' = l ++ [⟨gen, (tailOf l : Int), kind, bs⟩] ∧ D'.gone = false
  no : E ≠ 0 → l' = l
  left : D.left < 0 → D'.left = D.left ∧ D'.gone = false
  ws : D'.ws.length ≤ D.ws.length + 4096
  mon : D.ws.length ≤ D'.ws.length
  only : OnlyG D gen → OnlyG D' gen
  pow : E = 61 → (D'.ws.length : Int) - (D.ws.length : Int) < need bs.length
theorem AppOut.refl {D : DM} {base size : Nat} {gen : Int} {l : List SR} {kind : Int} {bs : List Int} {E : Int} (hw : D.wf) (hL : Log D base size gen l) (hg : D.gone = false) (hE : E ≠ 0) (h61 : E ≠ 61) : AppOut D D base size gen l l kind bs E :=
  ⟨hw, rfl, hL, fun h => absurd h hE, fun _ => rfl, fun _ => ⟨rfl, hg⟩, by omega, Nat.le_refl _, fun h => h, fun h => absurd h h61⟩
set_option maxRecDepth 100000 in
theorem hput_log {w : World} {okd okr : Nat → Prop} {hb p : Nat} {D : DM} {base size : Nat} {gen : Int} {l : List SR} {A : Option Addr} {c : Nat} {bs : List Int} (h : PDisk w okd p D) (hh : HBlk w hb p ⟨base, size, gen, (tailOf l : Int), (l.length : Int)⟩) (hL : Log D base size gen l) (hg : D.gone = false)
    (hgen : 0 < gen ∧ gen < 18446744073709551616) (hF : RB w okr A bs) (hne : apart okr okd) (hnh : ¬ okd hb) (hl : bs.length ≤ c) (hB : Bytes bs) (hbig : bs.length ≤ 140737488355328) (hm : (D.ws.length + 65537) * 32 ≤ 140737488355328) (kind : Int) :
    Calls Try.prog 42 #[.pointer (some ⟨hb, 0, none⟩), .int .i64 kind, .slice A bs.length c] w fun e w' => ∃ E D' l', e = .returned (.int .i64 E) ∧ PDisk w' (orNew okd w) p D' ∧ HBlk w' hb p ⟨base, size, gen, (tailOf l' : Int), (l'.length : Int)⟩ ∧ AppOut D D' base size gen l l' kind bs E ∧ Chg (fun k => okd k ∨ k = hb) w w' := by
  have hn := hL.n
  have hfit := hL.fit
  have hD4 := h.1.hi
  have hlen := tailOf_len l
  by_cases he : hputC ⟨base, size, gen, (tailOf l : Int), (l.length : Int)⟩ kind bs.length = 0
  · have hp := hL.append h.1 hg hgen hB he
    refine (hput_ok h hh hF hne hnh hl hB (by dsimp only; omega) (by dsimp only; omega) (by dsimp only; omega) (by dsimp only; omega) hm kind he).mono ?_
    rintro e w' ⟨rfl, hD, hH, hc⟩
    unfold hputH at hH
    unfold hputR at hD hH ⊢
    dsimp only at hD hH ⊢
    have hnd := need_bodies hp.right.l
    dsimp only at hnd
    generalize (D.sealW base ⟨gen, (tailOf l : Int), kind, bs⟩).1 = D2 at hp hD
    generalize (D.sealW base ⟨gen, (tailOf l : Int), kind, bs⟩).2 = E at hp hH ⊢
    refine ⟨E, D2, if E = 0 then l ++ [⟨gen, (tailOf l : Int), kind, bs⟩] else l, rfl, hD, ?_, ⟨hp.wf, hp.n, hp.log, fun h0 => ⟨if_pos h0, hp.gone h0⟩, fun h0 => if_neg h0, fun h0 => ⟨(hp.left h0).2, hp.gone (hp.left h0).1⟩, ?_, by rw [hp.ws]; omega, hp.only, ?_⟩, hc⟩
    · by_cases h0 : E = 0
      · rw [if_pos h0] at hH ⊢
        rw [tailOf_snoc, List.length_append, List.length_singleton]
        rw [hnd] at hH
        simpa using hH
      · rw [if_neg h0] at hH ⊢
        exact hH
    · have h1 := hp.ws
      have h2 := done_le D.left (bodies ⟨gen, (tailOf l : Int), kind, bs⟩ + 1)
      have h3 : bodies ⟨gen, (tailOf l : Int), kind, bs⟩ + 1 ≤ 4096 := by have := hp.right.l; dsimp only at this; unfold bodies; dsimp only; omega
      omega
    · intro hE
      have h1 := hp.ws
      have h2 := done_le D.left (bodies ⟨gen, (tailOf l : Int), kind, bs⟩ + 1)
      have h3 : ¬ done_ D.left (bodies ⟨gen, (tailOf l : Int), kind, bs⟩ + 1) = bodies ⟨gen, (tailOf l : Int), kind, bs⟩ + 1 := fun h => by have := hp.all.2 h; omega
      rw [hnd]
      omega
  · refine (hput_err hh (by dsimp only; omega) kind A bs.length c hbig he).mono ?_
    rintro e w' ⟨rfl, hb⟩
    exact ⟨_, D, l, rfl, (h.step (fun k _ hk => hb.block k hk)).mono (fun _ hk => .inl hk), hh.step (hb.block _ hh.lt), AppOut.refl h.1 hL hg he (by unfold hputC; split <;> (try split) <;> (try split) <;> omega), Chg.of_below hb _⟩
end Go.Proofs.Ytekhmkfiepnnkaa

/- Law 23: a log between the rounds of a law; Bytes, Append, Open, told of it. -/
set_option linter.unusedVariables false
set_option linter.unusedSimpArgs false
namespace Go.Proofs.Ytekhmkfiepnnkaa
open Go.RowKit Go.Shelf Go.Proofs.YtekhmkfiepnnkaaW.PrintWords Go.Proofs.YtekhmkfiepnnkaaW.PrintMore

theorem op23_len (o : Op23) : o.bytes.length = o.len := by simp [Op23.bytes]
theorem op23_short (o : Op23) : o.bytes.length ≤ 400000 := by rw [op23_len]; unfold Op23.len; split <;> omega
theorem op23_bytes (o : Op23) : Bytes o.bytes := by
  intro x hx
  unfold Op23.bytes at hx
  simp only [List.mem_map, List.mem_range] at hx
  obtain ⟨i, _, rfl⟩ := hx
  unfold Op23.at
  omega
/-- The cells of the k-th op of a script. -/
def OpC (ad : Addr) (k : Nat) (o : Op23) (W : World) : Prop := ∀ j v, ([.int .i64 o.kind, .int .i64 o.of_, .int .i64 o.n, .int .u8 o.fill, .int .u64 o.gen] : List Value)[j]? = some v → W.cell? ((ad.add (k * 5)).add j) = some v
theorem op23_at {w : World} {ad : Addr} {l : List Op23} (h : KOp23.C w (some ad) l.length l) {i : Nat} (hi : i < l.length) : OpC ad i l[i] w := by
  obtain ⟨ad', cs, hA, hcs, hK, hcell⟩ := Kd.C_get h ⟨0, 0, 0, 0, 0⟩ (i : Int) (by omega) (by omega)
  injection hA with hA
  subst hA
  simp only [Int.toNat_natCast] at hK hcell
  have hget : l.getD i ⟨0, 0, 0, 0, 0⟩ = l[i] := by simp [List.getD_eq_getElem?_getD, hi]
  rw [hget] at hK
  have hcs2 := KOp23_open hK
  intro j v hj
  rw [add_add']
  refine hcell j v ?_
  rw [hcs2]
  exact hj
theorem add_block (a : Addr) (i : Nat) : (a.add i).block = a.block := by unfold Addr.add; split <;> rfl
theorem OpC.below {ad : Addr} {k : Nat} {o : Op23} {W W' : World} (h : OpC ad k o W) (hb : Below W.heap.size W W') : OpC ad k o W' := fun j v hj => pw_cell_below hb (h j v hj)
theorem OpC.chg {S : Nat → Prop} {ad : Addr} {k : Nat} {o : Op23} {W W' : World} (h : OpC ad k o W) (hc : Chg S W W') (hS : ¬ S ad.block) : OpC ad k o W' := fun j v hj => hc.cell_ (h j v hj) (by rw [add_block, add_block]; exact hS)
theorem OpC.c1 {ad : Addr} {k : Nat} {o : Op23} {W : World} (h : OpC ad k o W) : W.cell? ⟨(ad.add (k * 5)).block, (ad.add (k * 5)).off + 1, none⟩ = some (.int .i64 o.of_) := by
  have := h 1 _ rfl
  simpa [Addr.add] using this
theorem OpC.c3 {ad : Addr} {k : Nat} {o : Op23} {W : World} (h : OpC ad k o W) : W.cell? ⟨(ad.add (k * 5)).block, (ad.add (k * 5)).off + 3, none⟩ = some (.int .u8 o.fill) := by
  have := h 3 _ rfl
  simpa [Addr.add] using this
theorem OpC.lt {ad : Addr} {k : Nat} {o : Op23} {W : World} (h : OpC ad k o W) : ad.block < W.heap.size := by
  have := World.block_lt_of_cell? W _ (h 0 _ rfl)
  rwa [add_block, add_block] at this
theorem bytesR {w : World} (o : Op23) : Calls Try.prog 43 #[.agg #[.int .i64 o.kind, .int .i64 o.of_, .int .i64 o.n, .int .u8 o.fill, .int .u64 o.gen]] w fun e w' => ∃ g, e = .returned (.slice (some ⟨g, 0, none⟩) o.bytes.length o.bytes.length) ∧ w.heap.size ≤ g ∧ RB w' (fun k => k = g) (some ⟨g, 0, none⟩) o.bytes ∧ Below w.heap.size w w' := by
  refine (bytes23_any o).mono ?_
  rintro e w' ⟨rfl, hg, hb⟩
  refine ⟨w.heap.size + 1, by rw [op23_len], by omega, RB_blk hg (by have := op23_short o; omega) (fun j hj => by simp [nums, List.getD_eq_getElem?_getD, hj]), hb⟩
/-- What stands of a log between rounds; B: what is below is not the call's own. -/
structure LG (B p hb : Nat) (okd : Nat → Prop) (D : DM) (base size : Nat) (gen : Int) (l : List SR) (m : Nat) (W : World) : Prop where
  d : PDisk W okd p D
  h : HBlk W hb p ⟨base, size, gen, (tailOf l : Int), (l.length : Int)⟩
  log : Log D base size gen l
  ws : D.ws.length ≤ m * 4096
  ok : ∀ q, okd q → B ≤ q ∧ q < W.heap.size
  nh : ¬ okd hb
  lo : B ≤ hb
theorem LG.below {B p hb : Nat} {okd : Nat → Prop} {D : DM} {base size : Nat} {gen : Int} {l : List SR} {m : Nat} {W W' : World} (h : LG B p hb okd D base size gen l m W) (hb' : Below W.heap.size W W') : LG B p hb okd D base size gen l m W' :=
  ⟨h.d.step (fun k _ hk => hb'.block k hk), h.h.step (hb'.block _ h.h.lt), h.log, h.ws, fun q hq => ⟨(h.ok q hq).1, Nat.lt_of_lt_of_le (h.ok q hq).2 hb'.size⟩, h.nh, h.lo⟩
theorem LG.chg {B p hb : Nat} {okd S : Nat → Prop} {D : DM} {base size : Nat} {gen : Int} {l : List SR} {m : Nat} {W W' : World} (h : LG B p hb okd D base size gen l m W) (hc : Chg S W W') (hS : ∀ q, S q → ¬ okd q ∧ q ≠ hb) : LG B p hb okd D base size gen l m W' :=
  ⟨h.d.step (fun k hk hlt => hc.block k hlt (fun hs => (hS k hs).1 hk)), h.h.step (hc.block _ h.h.lt (fun hs => (hS _ hs).2 rfl)), h.log, h.ws, fun q hq => ⟨(h.ok q hq).1, Nat.lt_of_lt_of_le (h.ok q hq).2 hc.size⟩, h.nh, h.lo⟩
theorem LG.few {B p hb : Nat} {okd : Nat → Prop} {D : DM} {base size : Nat} {gen : Int} {l : List SR} {m : Nat} {W : World} (h : LG B p hb okd D base size gen l m W) : l.length ≤ size ∧ tailOf l ≤ size := by
  have h1 := h.log.fit
  have h2 := tailOf_len l
  omega
theorem LG.append {B p hb : Nat} {okd okr : Nat → Prop} {D : DM} {base size : Nat} {gen : Int} {l : List SR} {m : Nat} {W : World} (h : LG B p hb okd D base size gen l m W) (hg : D.gone = false) (hgen : 0 < gen ∧ gen < 18446744073709551616) (hm : m ≤ 200) {A : Option Addr} {c : Nat} {bs : List Int}
    (hF : RB W okr A bs) (hne : apart okr okd) (hl : bs.length ≤ c) (hB : Bytes bs) (hbig : bs.length ≤ 400000) (kind : Int) :
    Calls Try.prog 42 #[.pointer (some ⟨hb, 0, none⟩), .int .i64 kind, .slice A bs.length c] W fun e W' => ∃ E D' l' okd', e = .returned (.int .i64 E) ∧ LG B p hb okd' D' base size gen l' (m + 1) W' ∧ AppOut D D' base size gen l l' kind bs E ∧ Chg (fun k => okd k ∨ k = hb) W W' ∧ (∀ q, okd' q → okd q ∨ W.heap.size ≤ q) := by
  have hws := h.ws
  refine (hput_log h.d h.h h.log hg hgen hF hne h.nh hl hB (by omega) (by omega) kind).mono ?_
  rintro e W' ⟨E, D', l', rfl, hD, hH, hA, hC⟩
  have hBl : B ≤ W.heap.size := Nat.le_trans h.lo (Nat.le_of_lt h.h.lt)
  refine ⟨E, D', l', fun q => orNew okd W q ∧ q < W'.heap.size, rfl, ⟨hD.bound, hH, hA.log, by have := hA.ws; omega, ?_, ?_, h.lo⟩, hA, hC, fun q hq => hq.1⟩
  · rintro q ⟨hq | hq, hlt⟩
    · exact ⟨(h.ok q hq).1, hlt⟩
    · exact ⟨by omega, hlt⟩
  · rintro ⟨hq | hq, _⟩
    · exact h.nh hq
    · have := h.h.lt; omega
theorem LG.open_ {B p hb : Nat} {okd : Nat → Prop} {D : DM} {base size : Nat} {gen : Int} {l : List SR} {m : Nat} {W : World} (h : LG B p hb okd D base size gen l m W) (hg : D.gone = false) (hs : 0 < size) (hgen : 0 < gen) :
    Calls Try.prog 44 #[.pointer (some ⟨p, 0, none⟩), .int .i64 base, .int .i64 size, .int .u64 gen] W fun e W' => ∃ h2 A c, e = .returned (.tuple #[.pointer (some ⟨h2, 0, none⟩), .slice A l.length c, .int .i64 0]) ∧ LG B p h2 okd D base size gen l m W' ∧ W.heap.size ≤ h2 ∧
      KRec.R 25 W' W.heap.size (fun k => W.heap.size ≤ k) (.slice A l.length c) l ∧ Below W.heap.size W W' := by
  have hn := h.log.n
  have hE : hnewE D base size gen = 0 := by unfold hnewE; rw [if_neg (by omega)]
  refine (hopen_ok h.d base size gen hE hg).mono ?_
  unfold Opened
  rw [h.log.recs hg]
  rintro e W' ⟨h2, A, c, rfl, hlo, hH, hR, hB⟩
  have hBl : B ≤ W.heap.size := Nat.le_trans h.lo (Nat.le_of_lt h.h.lt)
  have h' := h.below hB
  exact ⟨h2, A, c, rfl, ⟨h'.d, hH, h'.log, h'.ws, h'.ok, fun hq => by have := (h.ok h2 hq).2; omega, by omega⟩, hlo, hR, hB⟩
set_option maxRecDepth 100000 in
theorem told_nil {w : World} {A1 A2 : Option Addr} {c1 c2 : Nat} :
    Calls Try.prog 45 #[.slice A1 0 c1, .slice A2 0 c2] w fun e w' => e = .returned (.bool true) ∧ Below w.heap.size w w' := by
  go_enter Try.func45, Try.ntmps45
  go_wp2_with fail
  go_loopw [5] (fun av wr => av = .int .i64 0 ∧ Below w.heap.size w wr) (fun av _ => 0 - (intOf av).toNat)
  case atStart => exact ⟨rfl, Below.refl _ _⟩
  case round =>
    obtain ⟨rfl, hB⟩ := hrel
    go_wp2
    go_ret
    exact ⟨rfl, hB⟩
theorem told_R {w : World} {b1 b2 : Nat} {ok1 ok2 : Nat → Prop} {A1 A2 : Option Addr} {c1 c2 : Nat} {l : List SR} {ws : List (Int × ByteArray)} (h1 : KRec.R 25 w b1 ok1 (.slice A1 l.length c1) l) (h2 : KWant.R 88 w b2 ok2 (.slice A2 l.length c2) ws) (he : ws = l.map (fun r => (r.kind, strOfNums r.bytes))) (hn : l.length ≤ 65536) :
    Calls Try.prog 45 #[.slice A1 l.length c1, .slice A2 l.length c2] w fun e w' => e = .returned (.bool true) ∧ Below w.heap.size w w' := by
  have hlw : ws.length = l.length := by rw [he, List.length_map]
  rcases Nat.eq_zero_or_pos l.length with h0 | h0
  · rw [h0]; exact told_nil
  · obtain ⟨g1, cap1, e1, _⟩ := Kd.R_form h1 h0
    obtain ⟨g2, cap2, e2, _⟩ := Kd.R_form h2 (by omega)
    injection e1 with e1
    injection e2 with e2
    subst e1 e2
    have := told_any (c1 := c1) (c2 := c2) (Kd.R_reads' h1).2.2 (Kd.R_reads' h2).2.2 he hn
    rw [hlw] at this
    exact this
end Go.Proofs.Ytekhmkfiepnnkaa

/- Law 23: scripts as arguments. -/
set_option linter.unusedVariables false
set_option linter.unusedSimpArgs false
namespace Go.Proofs.Ytekhmkfiepnnkaa
open Go.RowKit Go.Proofs.YtekhmkfiepnnkaaW.PrintWords

theorem opens_ops23 : Opens Try.prog 78 (Kd.slice 84 KOp23) (fun xs => (∀ x ∈ xs, x.ok) ∧ xs.length * 40 ≤ 140737488351232) :=
  opens_slice Try.underlying78 (by kernel_rfl) (by kernel_rfl) opens_op23
end Go.Proofs.Ytekhmkfiepnnkaa

/- Law 23: HalfFinds, walked. -/
set_option linter.unusedVariables false
set_option linter.unusedSimpArgs false
namespace Go.Proofs.Ytekhmkfiepnnkaa
open Go.RowKit Go.Shelf Go.Proofs.YtekhmkfiepnnkaaW.PrintWords Go.Proofs.YtekhmkfiepnnkaaW.PrintMore

theorem new_log (n base size : Nat) (gen : Int) (h : base + size ≤ n) : Log (DM.new n) base size gen [] := ⟨trivial, fun j _ _ hk => absurd hk (new_head n j), Nat.zero_le _, by rw [new_n]; exact h⟩
/-- What was wanted, as memory has it. -/
structure Wants (B hb : Nat) (okd okw : Nat → Prop) (v : Value) (l : List SR) (W : World) : Prop where
  r : ∃ A c, v = .slice A l.length c ∧ KWant.R 88 W B okw v (l.map (fun r => (r.kind, strOfNums r.bytes)))
  ok : ∀ q, okw q → B ≤ q ∧ q < W.heap.size ∧ ¬ okd q ∧ q ≠ hb
theorem Wants.nil (B hb : Nat) (okd : Nat → Prop) (W : World) : Wants B hb okd (fun _ => False) (.slice none 0 0) [] W := ⟨⟨none, 0, rfl, Kd.R_nil _ _ _ _ _⟩, fun _ h => h.elim⟩
theorem info_rec23 : (Try.prog.info? 88).map (fun i => (i.zero, i.size, i.bytes)) = some (some (.agg #[.int .i64 0, .string ⟨#[]⟩]), 2, 24) := by kernel_rfl
theorem Wants.below {B hb : Nat} {okd okw : Nat → Prop} {v : Value} {l : List SR} {W W' : World} (h : Wants B hb okd okw v l W) (hb' : Below W.heap.size W W') : Wants B hb okd okw v l W' := by
  obtain ⟨⟨A, c, rfl, hR⟩, ho⟩ := h
  exact ⟨⟨A, c, rfl, Kd.R_below hR hb'⟩, fun q hq => ⟨(ho q hq).1, Nat.lt_of_lt_of_le (ho q hq).2.1 hb'.size, (ho q hq).2.2⟩⟩
theorem Wants.other {B hb hb2 : Nat} {okd okw : Nat → Prop} {v : Value} {l : List SR} {W : World} (h : Wants B hb okd okw v l W) (h3 : W.heap.size ≤ hb2) : Wants B hb2 okd okw v l W :=
  ⟨h.r, fun q hq => ⟨(h.ok q hq).1, (h.ok q hq).2.1, (h.ok q hq).2.2.1, fun e => by have := (h.ok q hq).2.1; omega⟩⟩
theorem Wants.step {B hb hb2 : Nat} {okd okd2 okw : Nat → Prop} {v : Value} {l : List SR} {W W' : World} (h : Wants B hb okd okw v l W) (hc : Chg (fun k => okd k ∨ k = hb) W W') (h2 : ∀ q, okd2 q → okd q ∨ W.heap.size ≤ q) (h3 : hb2 = hb ∨ W.heap.size ≤ hb2) : Wants B hb2 okd2 okw v l W' := by
  obtain ⟨⟨A, c, rfl, hR⟩, ho⟩ := h
  refine ⟨⟨A, c, rfl, Kd.R_step hR (fun q hq hlt => hc.block q hlt (fun e => ?_))⟩, fun q hq => ⟨(ho q hq).1, Nat.lt_of_lt_of_le (ho q hq).2.1 hc.size, fun e => ?_, fun e => ?_⟩⟩
  · have := ho q hq
    rcases e with e | e
    · exact this.2.2.1 e
    · exact this.2.2.2 e
  · have := ho q hq
    rcases h2 q e with h | h
    · exact this.2.2.1 h
    · omega
  · have := ho q hq
    rcases h3 with h | h
    · exact this.2.2.2 (e.trans h)
    · omega
theorem Wants.put {B hb : Nat} {okd okw : Nat → Prop} {v v3 : Value} {l : List SR} {W0 W6 w3 : World} (h : Wants B hb okd okw v l W0) (hd : ∀ q, okd q → q < W0.heap.size) (hlt : hb < W0.heap.size) (hb6 : Below W0.heap.size W0 W6) {g t kind : Int} {bs : List Int}
    (hR3 : KWant.R 88 w3 B (orNew okw W0) v3 (l.map (fun r => (r.kind, strOfNums r.bytes)) ++ [(kind, strOfNums bs)])) (hg3 : W6.grownBy w3 v.ownBlock) :
    Wants B hb okd (fun q => orNew okw W0 q ∧ B ≤ q ∧ q < w3.heap.size) v3 (l ++ [⟨g, t, kind, bs⟩]) w3 ∧ Chg okw W0 w3 := by
  obtain ⟨⟨A, c, rfl, hR⟩, ho⟩ := h
  have hC : Chg okw W0 w3 := (Chg.of_below hb6 okw).grown hg3 (fun k hk => .inl (hR.1 k hk))
  obtain ⟨A3, c3, rfl⟩ := Kd.R_slice hR3
  have hlen : (l.map (fun r => (r.kind, strOfNums r.bytes)) ++ [(kind, strOfNums bs)]).length = (l ++ [(⟨g, t, kind, bs⟩ : SR)]).length := by simp
  have hmap : (l.map (fun r => (r.kind, strOfNums r.bytes)) ++ [(kind, strOfNums bs)]) = (l ++ [(⟨g, t, kind, bs⟩ : SR)]).map (fun r => (r.kind, strOfNums r.bytes)) := by simp
  refine ⟨⟨⟨A3, c3, by rw [hlen], ?_⟩, fun q hq => ⟨hq.2.1, hq.2.2, fun e => ?_, fun e => ?_⟩⟩, hC⟩
  · rw [← hmap]
    exact Kd.R_mono (Kd.R_bound hR3) (fun q hq => ⟨hq.1, hq.2.1, hq.2.2.1⟩)
  · rcases hq.1 with h1 | h1
    · exact (ho q h1).2.2.1 e
    · have := hd q e; omega
  · rcases hq.1 with h1 | h1
    · exact (ho q h1).2.2.2 e
    · omega
set_option maxRecDepth 100000 in
set_option maxHeartbeats 16000000 in
theorem finds_any {w : World} {A1 A2 : Option Addr} {c1 c2 : Nat} {ol sl : List Op23} (hC1 : KOp23.C w A1 ol.length ol) (hC2 : KOp23.C w A2 sl.length sl) (hl1 : ol.length ≤ 140737488351232) (hl2 : sl.length ≤ 140737488351232) (hok2 : ∀ o ∈ sl, o.ok) :
    Calls Try.prog 10 #[.slice A1 ol.length c1, .slice A2 sl.length c2] w fun e w' => e = .returned (.bool true) ∧ Below w.heap.size w w' := by
  have hco : Try.prog.cellsOf 5 = 1 := by kernel_rfl
  have hE5 : hnewE (DM.new 40) (3 : Nat) (30 : Nat) 5 = 0 := by unfold hnewE; rw [new_n]; decide
  go_enter Try.func10, Try.ntmps10
  go_wp2_with fail
  refine (new_ok 40 (by omega) (by omega)).mono ?_
  rintro e w1 ⟨rfl, h1, b1⟩
  go_wp2_with fail
  refine alive_any.mono ?_
  rintro e w2 ⟨rfl, b2⟩
  have h2 := h1.bound.step (w1 := w2) (fun k _ hk => b2.block k hk)
  go_wp2_with fail
  refine (hnew_ok h2 3 30 5 hE5).mono ?_
  rintro e w3 ⟨rfl, hh3, b3⟩
  have s1 := b1.size
  have s2 := b2.size
  have s3 := b3.size
  have hLG : LG w.heap.size (w.heap.size + 1) w2.heap.size (fun q => w.heap.size ≤ q ∧ q < w1.heap.size) (DM.new 40) 3 30 5 [] 0 w3 :=
    ⟨h2.step (fun k _ hk => b3.block k hk), hh3, new_log 40 3 30 5 (by omega), Nat.zero_le _, fun q hq => ⟨hq.1, by omega⟩, fun hq => by omega, by omega⟩
  have hBw : Below w.heap.size w w3 := below_step (below_step b1 b2) b3
  have hOG : OnlyG (DM.new 40) 5 := fun j hk => absurd hk (new_head 40 j)
  generalize w.heap.size + 1 = p at hLG ⊢
  generalize w2.heap.size = hb at hLG ⊢
  clear h1 h2 hh3 b1 b2 b3 s1 s2 s3
  go_upto_block 0 with (fail)
  go_cut [] (fun wc => ∃ (k : Nat) (D : DM) (okd : Nat → Prop) (l : List SR), k ≤ 60 ∧ LG w.heap.size p hb okd D 3 30 5 l k wc ∧ D.gone = false ∧ D.left < 0 ∧ OnlyG D 5 ∧ D.n = 40 ∧ Below w.heap.size w wc)
  case first =>
    go_wp2_with fail
    go_loopw [8] (fun i wr => ∃ (k : Nat) (D : DM) (okd : Nat → Prop) (l : List SR), k ≤ ol.length ∧ k ≤ 60 ∧ i = .int .i64 k ∧ LG w.heap.size p hb okd D 3 30 5 l k wr ∧ D.gone = false ∧ D.left < 0 ∧ OnlyG D 5 ∧ D.n = 40 ∧ Below w.heap.size w wr) (fun i _ => 60 - (intOf i).toNat)
    case atStart => exact ⟨0, _, _, _, Nat.zero_le _, by omega, rfl, hLG, rfl, by show (-1 : Int) < 0; omega, hOG, new_n 40, hBw⟩
    case round =>
      obtain ⟨k, D, okd, l, hk, hk60, rfl, hL, hg, hlft, hog, hn, hB⟩ := hrel
      clear hLG hBw hOG
      by_cases hin : k < ol.length ∧ k < 60
      · obtain ⟨hlt, h60⟩ := hin
        have hlt' : (k : Int) < (ol.length : Int) := by omega
        cases A1 with
        | none =>
          have := C_none hC1
          subst this
          simp at hlt
        | some ad =>
        have hop := (op23_at hC1 hlt).below hB
        generalize ol[k] = o at hop
        have hadB : ad.block < w.heap.size := (op23_at hC1 hlt).lt
        have HL := hid (And.intro hL (And.intro hg (And.intro hlft (And.intro hog (And.intro hn (And.intro hB hadB))))))
        clear hL hg hlft hog hn hB hadB hC1 hC2
        go_wp2_with fail
        refine wp_region_plan [] (.take 0 (.take 1 (.take 2 (.take 3 (.take 4 (.take 5 (.take 6 (.take 7 (.take 8 (.take 9 (.run 10 (.run 11 .done)))))))))))) (OpC ad k o) (by kernel_rfl) (by kernel_rfl) (fun c a d v w h => by cases d <;> exact h) hop ?_
        iterate 9 (apply plan_take rfl rfl; (case hy => (intro w' hS; have s1 := hS.c1; clear hS; go_simp; try exact rfl)); go_simp)
        apply plan_take rfl rfl
        case hy =>
          intro w' hS
          refine exec_load_row 84 (.tmp 58) ?_ (ad.add (k * 5)) ?_ [.int .i64 o.kind, .int .i64 o.of_, .int .i64 o.n, .int .u8 o.fill, .int .u64 o.gen] _ ?_ Try.underlying84 ?_ ?_
          · exact rfl
          · exact rfl
          · exact hS
          · exact rfl
          · kernel_rfl
        go_simp
        refine plan_run_on rfl rfl (fun K hK => ?_)
        go_simp
        refine (bytesR o).mono ?_
        rintro e w4 ⟨g4, rfl, hg4, hF4, b4⟩
        obtain ⟨hL, hg, hlft, hog, hn, hB, hadB⟩ := HL.out
        have hop4 := OpC.below (W := wr.drew) hop b4
        refine hK _ _ _ (fun _ h => h) hop4 ?_
        clear hK K
        go_simp
        refine plan_run_on rfl rfl (fun K hK => ?_)
        go_simp
        have hL4 := (hL.below (below_drew (Below.refl _ _))).below b4
        refine (hL4.append hg (by omega) (by omega) hF4 (fun q hq hd => by
          have h1 := (hL.ok q hd).2
          have h2 : wr.drew.heap.size ≤ q := by rw [hq]; exact hg4
          have h3 : wr.drew.heap.size = wr.heap.size := rfl
          omega) (Nat.le_refl _) (op23_bytes o) (op23_short o) o.of_).mono ?_
        rintro e w5 ⟨E, D5, l5, okd5, rfl, hL5, hA5, hC5, hok5⟩
        have hop5 := hop4.chg hC5 (fun hd => by
          rcases hd with hd | hd
          · have := (hL.ok _ hd).1; omega
          · have := hL.lo; omega)
        refine hK _ _ _ (fun _ h => h) hop5 ?_
        clear hK K
        refine plan_done ?_
        have hB5 : Below w.heap.size w w5 := (below_step (hB.drew) b4).trans (hC5.below_ (B := w.heap.size) (by have := hL4.lo; have := hL4.h.lt; omega) (fun q hq => by
          rcases hq with hq | hq
          · exact (hL.ok q hq).1
          · have := hL.lo; omega))
        have h5l := hA5.left hlft
        have HLL := hid hlft
        have h5o := hA5.only hog
        have h5n := hA5.n.trans hn
        have HR := hid (And.intro hL5 (And.intro h5l (And.intro h5o (And.intro h5n hB5))))
        clear hL5 h5l h5o h5n hB5 hop5 hop4 hL4 hA5 hC5 hok5 hL hg hlft hog hn hB hadB HL hF4 b4 hop
        go_wp2_with fail
        go_roundw
        case rel =>
          obtain ⟨hL5, h5l, h5o, h5n, hB5⟩ := HR.out
          exact ⟨k + 1, D5, okd5, l5, by omega, by omega, by go_num, hL5, h5l.2, by rw [h5l.1]; exact HLL.out, h5o, h5n, hB5⟩
        case measure => simp [intOf]; omega
      · by_cases hlt : k < ol.length
        · have h60 : k = 60 := by omega
          subst h60
          have hlt' : (60 : Int) < (ol.length : Int) := by omega
          have hlt2 : ((60 : Nat) : Int) < (ol.length : Int) := by omega
          have HL := hid (And.intro hL (And.intro hg (And.intro hlft (And.intro hog (And.intro hn hB)))))
          clear hL hg hlft hog hn hB hC1 hC2
          go_wp2_with fail
          go_meet
          case rel => exact ⟨_, D, okd, l, hk60, HL.out⟩
        · have hlt' : ¬ (k : Int) < (ol.length : Int) := by omega
          have HL := hid (And.intro hL (And.intro hg (And.intro hlft (And.intro hog (And.intro hn hB)))))
          clear hL hg hlft hog hn hB hC1 hC2
          go_wp2_with fail
          go_meet
          case rel => exact ⟨_, D, okd, l, hk60, HL.out⟩
  case rest =>
    obtain ⟨m, D, okd, l, hm, hL, hg, hlft, hog, hn, hB⟩ := hcut
    clear hLG hBw hOG hE5 hC1
    have hE6 : hnewE D (3 : Nat) (30 : Nat) 6 = 0 := by unfold hnewE; rw [hn]; decide
    have hnw := hnew_ok hL.d 3 30 6 hE6
    go_wp2_with fail
    refine hnw.mono ?_
    rintro e w4 ⟨rfl, hh4, b4⟩
    have hLG4 : LG w.heap.size p wc.heap.size okd D 3 30 6 [] m w4 := ⟨hL.d.step (fun k _ hk => b4.block k hk), hh4, hog.log (by decide) (by rw [hn]; omega), hL.ws, fun q hq => ⟨(hL.ok q hq).1, by have := (hL.ok q hq).2; have := b4.size; omega⟩, fun hq => by have := (hL.ok _ hq).2; omega, hB.size⟩
    have hB4 := below_step hB b4
    generalize wc.heap.size = h0 at hLG4 ⊢
    clear hL hog hh4 b4 hE6 hnw hn hB
    go_wp2_with fail
    go_loopw [9, 10, 11] (fun hv v i wr => ∃ (k h2 : Nat) (D : DM) (okd okw : Nat → Prop) (l : List SR), k ≤ sl.length ∧ k ≤ 60 ∧ hv = .pointer (some ⟨h2, 0, none⟩) ∧ i = .int .i64 k ∧ LG w.heap.size p h2 okd D 3 30 6 l (m + k) wr ∧ D.gone = false ∧ D.left < 0 ∧ Wants w.heap.size h2 okd okw v l wr ∧ Below w.heap.size w wr) (fun _ _ i _ => 60 - (intOf i).toNat)
    case atStart => exact ⟨0, _, _, _, _, _, Nat.zero_le _, by omega, rfl, rfl, hLG4, hg, hlft, Wants.nil _ _ _ _, hB4⟩
    case round =>
      clear hLG4 hB4 hg hlft
      obtain ⟨k, h2, D, okd, okw, l, hk, hk60, rfl, rfl, hL, hg, hlft, hW, hB⟩ := hrel
      by_cases hin : k < sl.length ∧ k < 60
      · obtain ⟨hlt, h60⟩ := hin
        have hlt' : (k : Int) < (sl.length : Int) := by omega
        cases A2 with
        | none =>
          have := C_none hC2
          subst this
          simp at hlt
        | some ad =>
        have hop := (op23_at hC2 hlt).below hB
        have ho := hok2 sl[k] (List.getElem_mem hlt)
        have hadB : ad.block < w.heap.size := (op23_at hC2 hlt).lt
        generalize sl[k] = o at hop ho
        obtain ⟨⟨A, c, rfl, hR⟩, hokw⟩ := hW
        have HL := hid (And.intro hL (And.intro hg (And.intro hlft (And.intro hR (And.intro hokw (And.intro hB hadB))))))
        clear hL hg hlft hR hokw hB hadB hC2
        go_wp2_with fail
        refine wp_region_plan [] (.take 0 (.take 1 (.take 2 (.take 3 (.take 4 (.take 5 (.take 6 (.take 7 (.take 8 (.take 9 (.run 10 (.run 11 (.take 12 .done))))))))))))) (OpC ad k o) (by kernel_rfl) (by kernel_rfl) (fun c a d v w h => by cases d <;> exact h) hop ?_
        iterate 9 (apply plan_take rfl rfl; (case hy => (intro w' hS; have s1 := hS.c1; clear hS; go_simp; try exact rfl)); go_simp)
        apply plan_take rfl rfl
        case hy =>
          intro w' hS
          refine exec_load_row 84 (.tmp 91) ?_ (ad.add (k * 5)) ?_ [.int .i64 o.kind, .int .i64 o.of_, .int .i64 o.n, .int .u8 o.fill, .int .u64 o.gen] _ ?_ Try.underlying84 ?_ ?_
          · exact rfl
          · exact rfl
          · exact hS
          · exact rfl
          · kernel_rfl
        go_simp
        refine plan_run_on rfl rfl (fun K hK => ?_)
        go_simp
        refine (bytesR o).mono ?_
        rintro e w4 ⟨g4, rfl, hg4, hF4, b4⟩
        obtain ⟨hL, hg, hlft, hR, hokw, hB, hadB⟩ := HL.out
        have hop4 := OpC.below (W := wr.drew) hop b4
        refine hK _ _ _ (fun _ h => h) hop4 ?_
        clear hK K
        go_simp
        refine plan_run_on rfl rfl (fun K hK => ?_)
        go_simp
        have hL4 := (hL.below (below_drew (Below.refl _ _))).below b4
        have hW4 := (Wants.below (W' := wr.drew) ⟨⟨A, c, rfl, hR⟩, hokw⟩ (below_drew (Below.refl _ _))).below b4
        refine (hL4.append hg (by omega) (by omega) hF4 (fun q hq hd => by
          have h1 := (hL.ok q hd).2
          have h2 : wr.drew.heap.size ≤ q := by rw [hq]; exact hg4
          have h3 : wr.drew.heap.size = wr.heap.size := rfl
          omega) (Nat.le_refl _) (op23_bytes o) (op23_short o) o.of_).mono ?_
        rintro e w5 ⟨E, D5, l5, okd5, rfl, hL5, hA5, hC5, hok5⟩
        have hop5 := hop4.chg hC5 (fun hd => by
          rcases hd with hd | hd
          · have := (hL.ok _ hd).1; omega
          · have := hL.lo; omega)
        refine hK _ _ _ (fun _ h => h) hop5 ?_
        clear hK K
        go_simp
        apply plan_take rfl rfl
        case hy => (intro w' hS; clear hS; go_simp; try exact rfl)
        go_simp
        refine plan_done ?_
        have hB5 : Below w.heap.size w w5 := (below_step (hB.drew) b4).trans (hC5.below_ (B := w.heap.size) (by have := hL4.lo; have := hL4.h.lt; omega) (fun q hq => by
          rcases hq with hq | hq
          · exact (hL.ok q hq).1
          · have := hL.lo; omega))
        have hW5 := hW4.step hC5 hok5 (.inl rfl)
        have h5l := hA5.left hlft
        have h5lt : D5.left < 0 := by rw [h5l.1]; exact hlft
        have hyes := hA5.yes
        have hno := hA5.no
        have HR := hid (And.intro hL5 (And.intro h5l.2 (And.intro h5lt (And.intro hB5 (And.intro hadB (And.intro hyes hno))))))
        clear hL5 h5l h5lt hB5 hyes hno hop4 hL4 hA5 hC5 hok5 hL hg hlft hR hokw hB hadB HL hF4 b4 hop hW4
        go_upto_if 95 with (fail)
        go_cut [10] (fun v wc2 => ∃ (D5 : DM) (okd5 okw5 : Nat → Prop) (l5 : List SR), LG w.heap.size p h2 okd5 D5 3 30 6 l5 (m + k + 1) wc2 ∧ D5.gone = false ∧ D5.left < 0 ∧ Wants w.heap.size h2 okd5 okw5 v l5 wc2 ∧ OpC ad k o wc2 ∧ Below w.heap.size w wc2)
        case first =>
          by_cases hE : E = 0
          · subst hE
            obtain ⟨hL5, h5g, h5lt, hB5, hadB, hyes, hno⟩ := HR.out
            have hl5 := (hyes rfl).1
            have hfew := hL5.few
            have hlen5 : l5.length = l.length + 1 := by rw [hl5]; simp
            have hs5 := hB5.size
            have HL := hid (And.intro hL5 (And.intro h5g (And.intro h5lt (And.intro hB5 (And.intro hadB (And.intro hl5 (And.intro hW5 (And.intro hfew (And.intro hlen5 hs5)))))))))
            clear hL5 h5g h5lt hB5 hadB hyes hno hl5 hW5 HR hfew hlen5 hs5
            go_wp2_with fail
            refine wp_region_plan [15] (.take 0 (.take 1 (.take 2 (.take 3 (.take 4 (.take 5 (.take 6 (.take 7 (.take 8 (.take 9 (.run 10 (.take 11 (.take 12 (.run 13 (.run 14 (.tail 15 .done)))))))))))))))) (OpC ad k o) (by kernel_rfl) (by kernel_rfl) (fun c a d v w h => by cases d <;> exact h) hop5 ?_
            iterate 9 (apply plan_take rfl rfl; (case hy => (intro w' hS; have s1 := hS.c1; clear hS; go_simp; try exact rfl)); go_simp)
            apply plan_take rfl rfl
            case hy =>
              intro w' hS
              refine exec_load_row 84 (.tmp 104) ?_ (ad.add (k * 5)) ?_ [.int .i64 o.kind, .int .i64 o.of_, .int .i64 o.n, .int .u8 o.fill, .int .u64 o.gen] _ ?_ Try.underlying84 ?_ ?_
              · exact rfl
              · exact rfl
              · exact hS
              · exact rfl
              · kernel_rfl
            go_simp
            refine plan_run_on rfl rfl (fun K hK => ?_)
            go_simp
            refine (bytesR o).mono ?_
            rintro e w6 ⟨g6, rfl, hg6, hF6, b6⟩
            have hop6 := OpC.below (W := w5.drew) hop5 b6
            refine hK (fun W' => OpC ad k o W' ∧ RB W' (fun q => q = g6) (some ⟨g6, 0, none⟩) o.bytes) _ _ (fun x hx => hx.1) ⟨hop6, hF6⟩ ?_
            clear hK K
            go_simp
            apply plan_take rfl rfl
            case hy =>
              intro w' hS
              refine exec_convert 22 9 (.tmp 106) (.slice (some ⟨g6, 0, none⟩) o.bytes.length o.bytes.length) (.string (strOfNums o.bytes)) ?_ ?_ (conv_str (Kd.F_now hS.2))
              · exact rfl
              · exact rfl
            go_simp
            apply plan_take rfl rfl
            case hy => (intro w' hS; clear hS; go_simp; try exact rfl)
            go_simp
            refine plan_run_on rfl rfl (fun K hK => ?_)
            go_simp
            refine hK _ _ _ (fun _ h => h) ⟨hop6.below (below_alloc (Below.refl _ _) _), RB_below hF6 (below_alloc (Below.refl _ _) _)⟩ ?_
            clear hK K
            refine plan_run rfl (fun K hK => ?_)
            obtain ⟨hL5, h5g, h5lt, hB5, hadB, hl5, hW5, hfew, hlen5, hs5⟩ := HL.out
            have hb56 : Below w5.heap.size w5 w6 := below_step (below_drew (Below.refl _ _)) b6
            have hW6 := hW5.below hb56
            have hR6 := hW6.r
            obtain ⟨A6, c6, hv6, hR6⟩ := hR6
            refine Kd.R_append_step KWant (w0 := w6) w.heap.size rfl (.tmp 96) (.tmp 109) 86 88 (.agg #[.int .i64 0, .string ⟨#[]⟩]) 24 rfl Try.underlying86 info_rec23 rfl (by decide) (by decide) (.slice A l.length c) (l.map (fun r => (r.kind, strOfNums r.bytes))) (o.of_, strOfNums o.bytes) [.int .i64 o.of_, .string (strOfNums o.bytes)]
              (orNew okw w5) (fun _ => False) rfl rfl ⟨[.int .i64 o.of_], [.string (strOfNums o.bytes)], rfl, rfl, rfl⟩ (fun q hq => hq.elim) (fun q hq => .inr (Nat.le_trans hb56.size hq)) (Kd.R_mono hR6 (fun _ h => .inl h)) (Below.refl _ _) (Nat.le_trans hs5 hb56.size) (by rw [List.length_map]; omega) ?_
            intro v3 w3 hR3 _ hg3 _
            obtain ⟨hW3, hC3⟩ := hW5.put (g := 6) (t := (tailOf l : Int)) (fun q hq => (hL5.ok q hq).2) hL5.h.lt hb56 hR3 hg3
            rw [← hl5] at hW3
            have hL3 := hL5.chg hC3 (fun q hq => ⟨(hW5.ok q hq).2.2.1, (hW5.ok q hq).2.2.2⟩)
            have hB3 : Below w.heap.size w w3 := hB5.trans (hC3.below_ hs5 (fun q hq => (hW5.ok q hq).1))
            have hop3 := hop5.chg hC3 (fun hq => by have := (hW5.ok _ hq).1; omega)
            have HF := hid (And.intro hL3 (And.intro hW3 (And.intro hop3 hB3)))
            have hF3 : RB w3 (fun q => q = g6) (some ⟨g6, 0, none⟩) o.bytes := RB_step hF6 ((Chg.refl (fun q => (Value.slice A l.length c).ownBlock = some q) w6).grown hg3 (fun q e => .inl e)) (fun q hq e => by
              have h1 := hR6.1 q e
              have h2 := (hW5.ok q h1).2.1
              have h3 : w5.drew.heap.size = w5.heap.size := rfl
              omega)
            refine hK _ _ _ (fun _ h => h) ⟨hop3, hF3⟩ ?_
            clear hK K hF3 hW3 hC3 hL3 hB3 hop3 hR3 hg3 hW6 hR6 hL5 hB5 hW5
            go_simp
            refine plan_tail_on rfl rfl (fun K hK => ?_)
            go_simp
            refine hK _ _ (plan_done ?_)
            clear hK K
            go_wp2_with fail
            go_meet
            case rel => exact ⟨D5, okd5, _, l5, HF.out.1, h5g, h5lt, HF.out.2.1, HF.out.2.2.1, HF.out.2.2.2⟩
          · have hEb : (E == 0) = false := by simpa using hE
            go_wp2_with fail
            go_meet
            case rel =>
              obtain ⟨hL5, h5g, h5lt, hB5, hadB, hyes, hno⟩ := HR.out
              rw [hno hE] at hL5
              exact ⟨D5, okd5, okw, l, hL5, h5g, h5lt, hW5, hop5, hB5⟩
        case rest =>
          clear hop5 hW5 HR
          obtain ⟨D5, okd5, okw5, l5, hL5, h5g, h5lt, hW5, hop5, hB5⟩ := hcut
          obtain ⟨⟨A7, c7, rfl, hR7⟩, hokw7⟩ := hW5
          have hfew := hL5.few
          have hopn := hL5.open_ h5g (by decide) (by decide)
          have HL := hid (And.intro hL5 (And.intro h5g (And.intro h5lt (And.intro hR7 (And.intro hokw7 (And.intro hop5 (And.intro hB5 hfew)))))))
          clear hL5 h5g h5lt hR7 hokw7 hop5 hB5 hfew
          go_wp2_with fail
          refine hopn.mono ?_
          rintro e w6 ⟨h3, A6, c6, rfl, hL6, hlo6, hR6, b6⟩
          obtain ⟨hL5, h5g, h5lt, hR7, hokw7, hop5, hB5, hfew⟩ := HL.out
          have htl := told_R (c1 := c6) (c2 := c7) hR6 (Kd.R_below hR7 b6) rfl (by omega)
          have HL6 := hid (And.intro hL6 (And.intro hlo6 b6))
          clear hL6 hlo6 b6 hL5 h5g h5lt hR7 hokw7 hop5 hB5 hfew hR6 hopn
          go_wp2_with fail
          refine htl.mono ?_
          rintro e w7 ⟨rfl, b7⟩
          obtain ⟨hL5, h5g, h5lt, hR7, hokw7, hop5, hB5, hfew⟩ := HL.out
          obtain ⟨hL6, hlo6, b6⟩ := HL6.out
          have hW7 := (Wants.below ⟨⟨A7, c7, rfl, hR7⟩, hokw7⟩ b6).below b7
          have hop7 := (hop5.below b6).below b7
          have hL7 := hL6.below b7
          have hL7o := (hL5.below b6).below b7
          have hB7 := below_step (below_step hB5 b6) b7
          have u1 := used_any hL7.h
          have u2 := used_any hL7o.h
          have u3 := hcount_any hL7.h
          have s3 := hop7.c3
          have hf := ho.f
          have hsz : ∀ W : World, (sizeOf 5).run Try.prog W = .ok 1 W := fun W => by
            obtain ⟨i, hi, _⟩ := Option.map_eq_some_iff.1 info_u8
            rw [run_sizeOf W hi, hco]
          have hW7n : Wants w.heap.size h3 okd5 okw5 (.slice A7 l5.length c7) l5 w7 := ⟨hW7.r, fun q hq => ⟨(hW7.ok q hq).1, (hW7.ok q hq).2.1, (hW7.ok q hq).2.2.1, fun e => by have := (hokw7 q hq).2.1; omega⟩⟩
          have HF := hid (And.intro hL7 (And.intro hL7o (And.intro hW7 (And.intro hW7n (And.intro h5g (And.intro h5lt hB7))))))
          clear htl hL5 h5g h5lt hR7 hokw7 hop5 hB5 hfew hL6 hlo6 b6 hW7 hW7n hop7 hL7 hL7o hB7 b7 HL HL6
          go_wp2_with fail
          refine u1.mono ?_
          rintro e w8 ⟨rfl, rfl⟩
          go_wp2_with fail
          refine u2.mono ?_
          rintro e w8 ⟨rfl, rfl⟩
          go_wp2_with fail
          refine u3.mono ?_
          rintro e w8 ⟨rfl, rfl⟩
          clear u1 u2 u3
          dsimp only
          go_wp2_with fail
          · go_roundw
            case rel =>
              obtain ⟨hL7, hL7o, hW7, hW7n, h5g, h5lt, hB7⟩ := HF.out
              exact ⟨k + 1, h3, D5, okd5, okw5, l5, by omega, by omega, rfl, by go_num, hL7, h5g, h5lt, hW7n, hB7⟩
            case measure => simp [intOf]; omega
          · go_roundw
            case rel =>
              obtain ⟨hL7, hL7o, hW7, hW7n, h5g, h5lt, hB7⟩ := HF.out
              exact ⟨k + 1, h2, D5, okd5, okw5, l5, by omega, by omega, rfl, by go_num, hL7o, h5g, h5lt, hW7, hB7⟩
            case measure => simp [intOf]; omega
      · by_cases hlt : k < sl.length
        · have h60 : k = 60 := by omega
          subst h60
          have hlt' : (60 : Int) < (sl.length : Int) := by omega
          have hlt2 : ((60 : Nat) : Int) < (sl.length : Int) := by omega
          clear hL hW hC2
          go_wp2
          go_ret
          exact ⟨rfl, hB⟩
        · have hlt' : ¬ (k : Int) < (sl.length : Int) := by omega
          clear hL hW hC2
          go_wp2
          go_ret
          exact ⟨rfl, hB⟩
theorem finds_row {w : World} {A1 A2 : Option Addr} {c1 c2 : Nat} {ol sl : List Op23} (hC1 : KOp23.C w A1 ol.length ol) (hC2 : KOp23.C w A2 sl.length sl) (g1 : (∀ x ∈ ol, x.ok) ∧ ol.length * 40 ≤ 140737488351232) (g2 : (∀ x ∈ sl, x.ok) ∧ sl.length * 40 ≤ 140737488351232) :
    Calls Try.prog 10 #[.slice A1 ol.length c1, .slice A2 sl.length c2] w fun e w' => e = .returned (.bool true) ∧ Below w.heap.size w w' :=
  finds_any hC1 hC2 (by have := g1.2; omega) (by have := g2.2; omega) g2.1
end Go.Proofs.Ytekhmkfiepnnkaa
