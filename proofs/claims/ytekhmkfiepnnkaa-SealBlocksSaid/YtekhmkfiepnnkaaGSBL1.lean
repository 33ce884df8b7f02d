/- PROVED: SealBlocks answers true at every input, and leaves what it was given as it was; no condition. -/
import Derived.Test.YtekhmkfiepnnkaaRows
import Derived.WalkKit
import Derived.ProofKit
import Derived.OpenShut
import Derived.ShutString
import Derived.ChangeOld
import Derived.Below
import Derived.SizedLaws
import Derived.Test.YtekhmkfiepnnkaaGSF
import Derived.Test.YtekhmkfiepnnkaaGSB

/- Package foundrylaw22: SealBlocks, walked. -/
set_option linter.unusedVariables false
set_option linter.unusedSimpArgs false
namespace Go.Proofs.Ytekhmkfiepnnkaa
open Go.RowKit Go.Proofs.YtekhmkfiepnnkaaW.PrintWords Go.Proofs.YtekhmkfiepnnkaaW.PrintMore

theorem blkL_all {r : SR} (hg : 0 ≤ r.gen ∧ r.gen < 18446744073709551616) (hb : Bytes r.bytes) : ∀ xs ∈ blkL r, xs.length = 64 ∧ Bytes xs := by
  intro xs hx
  unfold blkL at hx
  split at hx
  · rename_i he
    have hr := right_of he hg hb
    rw [← upB_all] at hx
    unfold upB at hx
    rcases List.mem_cons.1 hx with rfl | hx
    · exact ⟨headB_length r, headB_bytes hr⟩
    · obtain ⟨j, _, rfl⟩ := List.mem_map.1 hx
      exact ⟨bodyB_length r _, bodyB_bytes hr _⟩
  · simp at hx
theorem blkL_len (r : SR) : (blkL r).length ≤ 200000000 ∨ True := .inr trivial
/-- What Blocks hands out, opened. -/
theorem BlkOut.open_ {W : World} {B : Nat} {v : Value} {l : List (List Int)} (h : BlkOut W B v l) : ∃ (gs : List Nat) (A : Option Addr) (c : Nat), v = .slice A l.length c ∧ gs.Nodup ∧ (∀ g ∈ gs, B ≤ g ∧ g < W.heap.size) ∧
    (∀ (i : Nat) (xs : List Int), l[i]? = some xs → ∃ g g0, gs[i]? = some g ∧ A = some ⟨g0, 0, none⟩ ∧ g0 ∉ gs ∧ W.cell? ⟨g0, i, none⟩ = some (.slice (some ⟨g, 0, none⟩) 64 64) ∧ BU W g 111 xs) := by
  obtain ⟨gs, a1, a2, a3, a4, a5⟩ := h
  have hall : ∀ q ∈ gs, ∃ ys, BU W q 111 ys := fun q hq => by
    obtain ⟨i, hi, rfl⟩ := List.getElem_of_mem hq
    obtain ⟨g, hg, hb⟩ := a5 i l[i] (List.getElem?_eq_getElem (by omega))
    rw [List.getElem?_eq_getElem hi] at hg
    injection hg with hg
    exact ⟨_, hg ▸ hb⟩
  obtain ⟨A, c, hv⟩ := BlkOut.slice (W := W) (B := B) (v := v) (l := l) ⟨gs, a1, a2, a3, a4, a5⟩
  refine ⟨gs, A, c, hv, a3, fun g hg => ⟨a4 g hg, (hall g hg).elim fun _ h => h.lt⟩, fun i xs hi => ?_⟩
  obtain ⟨g0, c', g, hv', hc, hbu, _, _⟩ := BlkOut.get (W := W) (B := B) (v := v) (l := l) ⟨gs, a1, a2, a3, a4, a5⟩ hi
  obtain ⟨g2, hg2, hb2⟩ := a5 i xs hi
  rw [hv] at hv'
  injection hv' with e1 e2 e3
  subst e1
  have hty := Kd.R_typed a2 g0 (by rw [hv]; rfl)
  obtain ⟨cs, hcs⟩ := hty
  have hgi : g2 = g := by
    subst hv
    rw [← a1] at a2
    have hil := (List.getElem?_eq_some_iff.1 hi).1
    have hc2 := (Kd.R_cell 0 a2 (i : Int) (by omega) (by omega)).1
    have e : rdOf 0 gs (i : Int) = g2 := by simp [rdOf, List.getD_eq_getElem?_getD, hg2]
    rw [e] at hc2
    simp only [Int.toNat_natCast] at hc2
    rw [hc] at hc2
    injection hc2 with hc2
    injection hc2 with hc2
    injection hc2 with hc2
    injection hc2 with hc2
    exact hc2.symm
  subst hgi
  refine ⟨g2, g0, hg2, rfl, fun hm => ?_, hc, hbu⟩
  obtain ⟨ys, hy⟩ := hall g0 hm
  exact blk_type_ne hy hcs (by decide) rfl
/-- Between two rounds: the blocks not yet spoilt. -/
structure BInv (w6 wr : World) (gs : List Nat) (l : List (List Int)) (i : Nat) : Prop where
  chg : Chg (fun k => k ∈ gs) w6 wr
  blk : ∀ (j : Nat) (xs : List Int), i ≤ j → l[j]? = some xs → ∃ g, gs[j]? = some g ∧ BU wr g 111 xs
/-- A row of rows of bytes that is read: one row. -/
theorem KS_row {w : World} {A : Option Addr} {l : List (List Int)} (h : (Kd.slice 5 KB).C w A l.length l) {i : Nat} {xs : List Int} (hi : l[i]? = some xs) : ∃ ad A' c', A = some ad ∧ w.cell? (ad.add i) = some (.slice A' xs.length c') ∧ xs.length ≤ c' ∧ KB.C w A' xs.length xs := by
  have hl := (List.getElem?_eq_some_iff.1 hi).1
  obtain ⟨ad, cs, hA, hcs, hK, hcell⟩ := Kd.C_get h [] (i : Int) (by omega) (by omega)
  simp only [Int.toNat_natCast] at hK hcell
  have hget : l.getD i [] = xs := by simp [List.getD_eq_getElem?_getD, hi]
  rw [hget] at hK
  obtain ⟨A', c', rfl, hle, hC⟩ := hK
  have h2 := hcell 0 _ rfl
  have hsz : (Kd.slice 5 KB).sz = 1 := rfl
  rw [hsz, Nat.mul_one] at h2
  exact ⟨ad, A', c', hA, by simpa using h2, hle, hC⟩
set_option maxRecDepth 100000 in
set_option maxHeartbeats 4000000 in
theorem sealBlocks22_any {w : World} {A : Option Addr} {c : Nat} (r : SR) (n : Int) (hC : KB.C w A r.bytes.length r.bytes) (hle : r.bytes.length ≤ c) (hrok : r.ok) (hn : -9223372036854775808 ≤ n ∧ n ≤ 9223372036854775807) :
  Calls Try.prog 5 #[recV r A c, .int .i64 n] w fun e w' => e = .returned (.bool true) ∧ Below w.heap.size w w' := by
  have hb0 := below_alloc (Below.refl w.heap.size w) (.cells #[.int .u64 r.gen, .int .i64 r.at_, .int .i64 r.kind, .slice A r.bytes.length c] 28)
  have hn0 := heap_alloc_new w (.cells #[.int .u64 r.gen, .int .i64 r.at_, .int .i64 r.kind, .slice A r.bytes.length c] 28)
  have hm := mine_any (A := A) (c := c) r (Kd.C_below hC hb0) hle (by have := hrok.l; omega)
  have hC0 := Kd.C_below hC hb0
  unfold recV at hm
  unfold recV
  have hCR := hid (RB_of_C hC)
  clear hC
  go_enter Try.func5, Try.ntmps5
  go_wp2_with fail
  generalize w.alloc (.cells #[.int .u64 r.gen, .int .i64 r.at_, .int .i64 r.kind, .slice A r.bytes.length c] 28) = w0 at hb0 hn0 hm hC0 ⊢
  refine hm.mono ?_
  rintro e w3 ⟨A3, c3, rfl, hR3, hle3, b3⟩
  have hC3 := Kd.C_below hC0 b3
  have hn3 := (b3.block _ (blk_lt hn0)).trans hn0
  have hb3 : Below w.heap.size w w3 := hb0.trans (b3.mono hb0.size)
  have b34 := below_alloc (Below.refl w3.heap.size w3) (.cells #[.int .u64 r.gen, .int .i64 r.at_, .int .i64 r.kind, .slice A3 r.bytes.length c3] 25)
  have hn4 := heap_alloc_new w3 (.cells #[.int .u64 r.gen, .int .i64 r.at_, .int .i64 r.kind, .slice A3 r.bytes.length c3] 25)
  have hF4 : RB (w3.alloc (.cells #[.int .u64 r.gen, .int .i64 r.at_, .int .i64 r.kind, .slice A3 r.bytes.length c3] 25)) (fun k => k < w3.heap.size) A3 r.bytes := RB_below (Kd.R_F (Kd.R_mono (Kd.R_bound hR3) (fun k hk => hk.2.2.1))) b34
  have hn04 := (b34.block _ (blk_lt hn3)).trans hn3
  have hC4 := Kd.C_below hC3 b34
  have hb4 : Below w.heap.size w (w3.alloc (.cells #[.int .u64 r.gen, .int .i64 r.at_, .int .i64 r.kind, .slice A3 r.bytes.length c3] 25)) := hb3.trans (b34.mono hb3.size)
  have hbe := blocksB_any (w := w3.alloc (.cells #[.int .u64 r.gen, .int .i64 r.at_, .int .i64 r.kind, .slice A3 r.bytes.length c3] 25)) (A := A3) (c := c3) r hF4 hle3 hrok.g hrok.b
  have hws : w.heap.size < w3.heap.size := blk_lt hn3
  clear hm hR3 b34 b3 hn3 hb3 hC0 hC3 hb0 hn0
  unfold recV at hbe
  go_wp2_with fail
  generalize w3.alloc (.cells #[.int .u64 r.gen, .int .i64 r.at_, .int .i64 r.kind, .slice A3 r.bytes.length c3] 25) = w4 at hn4 hF4 hn04 hC4 hb4 hbe ⊢
  refine hbe.mono ?_
  rintro e w5 ⟨v5, rfl, hO5, b5⟩
  have h34 : w3.heap.size < w4.heap.size := blk_lt hn4
  have hn5 := (b5.block _ (blk_lt hn4)).trans hn4
  have hn05 := (b5.block _ (blk_lt hn04)).trans hn04
  have hF5 := RB_below hF4 b5
  have hb5 : Below w.heap.size w w5 := hb4.trans (b5.mono hb4.size)
  have hC5 := RB_below hCR.out hb5
  have hfb := rblocks_any (w := w5) (A := A) (c := c) r (Kd.F_now hC5) hle hrok.g hrok.b
  have m0 := cell_of_row _ _ 0 _ _ _ hn05
  have m1 := cell_of_row _ _ 1 _ _ _ hn05
  have m2 := cell_of_row _ _ 2 _ _ _ hn05
  have m3 := cell_of_row _ _ 3 _ _ _ hn05
  simp at m0 m1 m2 m3
  unfold recV at hfb
  have hall := blkL_all hrok.g hrok.b
  generalize blkL r = L at hO5 hfb hall
  generalize sealE r = E at hfb ⊢
  obtain ⟨gs, A5, c5, rfl, hnd, hgs, hget⟩ := hO5.open_
  clear hbe hn4 hn04 hF4 hC4 b5 hb4 hO5
  have HG := hid (And.intro hnd (And.intro hgs (And.intro hget (And.intro hall (And.intro hn5 hn05)))))
  clear hnd hgs hget hall hn5 hn05
  go_wp2_with fail
  refine hfb.mono ?_
  rintro e w6 ⟨v6, rfl, hN6, b6⟩
  obtain ⟨A6, c6, rfl⟩ := Kd.N_slice hN6
  clear hfb m0 m1 m2 m3
  have hF6 := RB_below hF5 b6
  have hC6 := RB_below hC5 b6
  have hb6 : Below w.heap.size w w6 := hb5.trans (b6.mono hb5.size)
  have HN := hid (And.intro hN6 (And.intro hF6 (And.intro hC6 (And.intro hb6 b6))))
  clear hN6 hF6 hC6 hb6 b6 hF5 hC5 hb5
  have n1 := need_any (w := w6) n hn
  have n2 := fneed_any (w := w6) n hn
  generalize need n = N at n1 n2
  go_wp2_with fail
  refine n1.mono ?_
  rintro e w7 ⟨rfl, rfl⟩
  go_wp2_with fail
  refine n2.mono ?_
  rintro e w7 ⟨rfl, rfl⟩
  clear n1 n2
  have hL9 : L.length ≤ 9223372036854775807 := (Kd.N_reads' HN.out.1).2.2.2.1
  go_upto_block 0 with (fail)
  go_cut [] (fun wc => Chg (fun k => k ∈ gs) w6 wc)
  case first =>
    go_wp2_with fail
    go_loopw [10] (fun i wr => ∃ j : Nat, j ≤ L.length ∧ i = .int .i64 (j : Int) ∧ BInv w6 wr gs L j) (fun i _ => L.length - (intOf i).toNat)
    case atStart =>
      refine ⟨0, Nat.zero_le _, rfl, Chg.refl _ _, fun j xs _ hj => ?_⟩
      obtain ⟨g, g0, h1, _, _, _, h2⟩ := HG.out.2.2.1 j xs hj
      exact ⟨g, h1, h2.step (HN.out.2.2.2.2.block _ h2.lt)⟩
    case round =>
      obtain ⟨j, hj, rfl, hI⟩ := hrel
      by_cases hlt : j < L.length
      · have hltI : (j : Int) < (L.length : Int) := by omega
        obtain ⟨xs, hxs⟩ : ∃ xs, L[j]? = some xs := ⟨_, List.getElem?_eq_getElem hlt⟩
        obtain ⟨g, g0, hg, rfl, hg0, hce, _⟩ := HG.out.2.2.1 j xs hxs
        obtain ⟨g', hg', hbu⟩ := hI.blk j xs (Nat.le_refl _) hxs
        rw [hg] at hg'
        injection hg' with hg'
        subst hg'
        obtain ⟨x64, xby⟩ := HG.out.2.2.2.1 xs (List.mem_of_getElem? hxs)
        have hNr := Kd.N_step HN.out.1 (fun k hk hlt => hI.chg.block k hlt (fun hm => by have := (HG.out.2.1 k hm).2; omega))
        obtain ⟨ad, A7, c7, rfl, hd1, hd2, hd3⟩ := KS_row (Kd.N_reads' hNr).2.2 hxs
        have hce6 := (HN.out.2.2.2.2.cell (World.block_lt_of_cell? _ _ hce)).trans hce
        have hcr := hI.chg.cell_ hce6 hg0
        have hsb := sameBytes_any (w := wr.drew) (A := some ⟨g, 0, none⟩) (c := 64) (Kd.C_below (Kd.F_now (hbu.row (by omega))) (below_drew (Below.refl _ _))) xby (by omega) (Kd.C_below hd3 (below_drew (Below.refl _ _))) xby hd2
        rw [decide_eq_true (rfl : xs = xs), x64] at hsb
        rw [x64] at hd1
        have HI := hid (And.intro hI (And.intro hbu (And.intro hg (And.intro hg0 (And.intro hxs hce6)))))
        clear hI hbu hg hg0 hce hNr hd2 hd3 hce6 xby hj
        go_wp2_with fail
        refine wp_region_plan [] (.take 0 (.take 1 (.take 2 (.take 3 (.take 4 (.take 5 (.take 6 (.take 7 (.run 8 (.take 9 .done)))))))))) (fun W' => W'.cell? ⟨g0, j, none⟩ = some (.slice (some ⟨g, 0, none⟩) 64 64) ∧ W'.cell? (ad.add j) = some (.slice A7 64 c7)) (by kernel_rfl) (by kernel_rfl) (fun c a d v w h => by cases d <;> exact h) ⟨hcr, hd1⟩ ?_
        iterate 8 (apply plan_take rfl rfl; (case hy => (intro w' hS; obtain ⟨s1, s2⟩ := hS; go_simp; try exact rfl)); go_simp)
        refine plan_run_on rfl rfl (fun K hK => ?_)
        go_simp
        refine hsb.mono ?_
        rintro e w8 ⟨rfl, b8⟩
        refine hK _ _ _ (fun _ h => h) ⟨pw_cell_below (w := wr.drew) b8 hcr, pw_cell_below (w := wr.drew) b8 hd1⟩ ?_
        clear hK K
        go_simp
        apply plan_take rfl rfl
        case hy => (intro w' hS; clear hS; go_simp; try exact rfl)
        go_simp
        refine plan_done ?_
        obtain ⟨hI, hbu, hg, hg0, hxs, hce6⟩ := HI.out
        have hch : Chg (fun k => k ∈ gs) w6 w8 := hI.chg.drew.same b8
        have hbk : ∀ (j' : Nat) (ys : List Int), j + 1 ≤ j' → L[j']? = some ys → ∃ g, gs[j']? = some g ∧ BU w8 g 111 ys := fun j' ys h1 h2 => by
          obtain ⟨q, hq, hb⟩ := hI.blk j' ys (by omega) h2
          exact ⟨q, hq, hb.step (b8.block q hb.lt)⟩
        have hbu8 : BU w8 g 111 xs := hbu.step (b8.block g hbu.lt)
        have HI2 := hid (And.intro hch (And.intro hbk (And.intro hg (And.intro hg0 hce6))))
        clear hI hbu hsb hcr hd1 b8 hg hxs hch hbk HI hce6 hg0
        go_wp2_with fail
        go_loopw [11] (fun i wr => ∃ k : Nat, k ≤ 64 ∧ i = .int .i64 (k : Int) ∧ BInv w6 wr gs L (j + 1) ∧ ∃ ys : List Int, ys.length = 64 ∧ BU wr g 111 ys) (fun i _ => 64 - (intOf i).toNat)
        case atStart => exact ⟨0, by omega, rfl, ⟨HI2.out.1, HI2.out.2.1⟩, xs, x64, hbu8⟩
        case round =>
          clear hbu8
          obtain ⟨k, hk, rfl, hI, ys, hy, hbu⟩ := hrel
          obtain ⟨_, _, hg, hg0, hcr6⟩ := HI2.out
          have hgm : g ∈ gs := List.mem_of_getElem? hg
          have hch := hI.chg
          have hcw : wr.cell? ⟨g0, j, none⟩ = some (.slice (some ⟨g, 0, none⟩) 64 64) := hI.chg.cell_ hcr6 hg0
          by_cases hkl : k < 64
          · have hklI : (k : Int) < 64 := by omega
            have hcb := hbu.cell (k := k) (by omega)
            have hfr := hbu.free k
            have hbu9 := hbu.set k 9
            have hch9 : Chg (fun k => k ∈ gs) w6 (wr.setCell ⟨g, k, none⟩ (.int .u8 9)) := hI.chg.setCell (p := ⟨g, k, none⟩) (.inl hgm) _
            have hbk9 : ∀ (j' : Nat) (zs : List Int), j + 1 ≤ j' → L[j']? = some zs → ∃ q, gs[j']? = some q ∧ BU (wr.setCell ⟨g, k, none⟩ (.int .u8 9)) q 111 zs := fun j' zs h1 h2 => by
              obtain ⟨q, hq, hb⟩ := hI.blk j' zs h1 h2
              refine ⟨q, hq, hb.step (Below.heap_setCell _ _ _ _ (fun e => ?_))⟩
              have e2 : q = g := e
              subst e2
              have h3 := (List.getElem?_eq_some_iff.1 hq).1
              have h4 := (List.getElem?_eq_some_iff.1 hg).1
              have h5 := (List.getElem?_eq_some_iff.1 hq).2
              have h6 := (List.getElem?_eq_some_iff.1 hg).2
              exact (List.pairwise_iff_getElem.1 HG.out.1) j j' h4 h3 (by omega) (h6.trans h5.symm)
            have HP := hid (And.intro hch9 (And.intro hbk9 hbu9))
            generalize ys[k] = y0 at hcb
            clear hI hbu hbu9 hch9 hbk9 hch
            go_wp2_with fail
            go_roundw
            case rel => exact ⟨k + 1, by omega, by go_num, ⟨HP.out.1, HP.out.2.1⟩, _, (by rw [List.length_set]; exact hy), HP.out.2.2⟩
            case measure => simp [intOf]; omega
          · have hklI : ¬ (k : Int) < 64 := by omega
            clear hbu hch
            have HP := hid hI
            clear hI
            go_wp2_with fail
            go_roundw
            case rel => exact ⟨j + 1, by omega, by go_num, HP.out⟩
            case measure => simp [intOf]; omega
      · have hltI : ¬ (j : Int) < (L.length : Int) := by omega
        have hch := hI.chg
        clear hI
        go_wp2_with fail
        go_meet
        case rel => exact hch
  case rest =>
    obtain ⟨hnd, hgs, hget, hall, hn5, hn05⟩ := HG.out
    obtain ⟨hN6, hF6, hC6, hb6, b6⟩ := HN.out
    have e1 := hcut.old ((b6.block _ (blk_lt hn5)).trans hn5) (fun hm => by have := (hgs _ hm).1; omega)
    have e2 := hcut.old ((b6.block _ (blk_lt hn05)).trans hn05) (fun hm => by have := (hgs _ hm).1; omega)
    have hF7 := RB_step hF6 hcut (fun k k1 k2 => by have := (hgs k k2).1; omega)
    have hC7 := RB_step hC6 hcut (fun k k1 k2 => by have := (hgs k k2).1; have k3 : k < w.heap.size := k1; omega)
    have hb7 : Below w.heap.size w wc := hb6.trans (hcut.below_ (B := w.heap.size) hb6.size (fun k hk => by have := (hgs k hk).1; omega))
    have hsm := sameRecord_true r (Kd.F_now hF7) hle3 (Kd.F_now hC7) hle
    unfold recV at hsm
    have m0 := cell_of_row _ _ 0 _ _ _ e1
    have m1 := cell_of_row _ _ 1 _ _ _ e1
    have m2 := cell_of_row _ _ 2 _ _ _ e1
    have m3 := cell_of_row _ _ 3 _ _ _ e1
    have s0 := cell_of_row _ _ 0 _ _ _ e2
    have s1 := cell_of_row _ _ 1 _ _ _ e2
    have s2 := cell_of_row _ _ 2 _ _ _ e2
    have s3 := cell_of_row _ _ 3 _ _ _ e2
    simp at m0 m1 m2 m3 s0 s1 s2 s3
    clear hnd hgs hget hall hn5 hn05 hN6 hF6 hC6 hb6 b6 e1 e2 hF7 hC7 hcut HG HN
    go_wp2_with fail
    refine hsm.mono ?_
    rintro e w8 ⟨rfl, b8⟩
    have hb8 := hb7.trans (b8.mono hb7.size)
    clear hsm m0 m1 m2 m3 s0 s1 s2 s3 hb7 b8
    go_wp2_with fail
    refine live_any.mono ?_
    rintro e w9 ⟨rfl, b9⟩
    have hb9 := hb8.trans (b9.mono hb8.size)
    clear hb8 b9
    go_wp2
    go_ret
    exact ⟨rfl, hb9⟩
end Go.Proofs.Ytekhmkfiepnnkaa
namespace Go.Proofs.Ytekhmkfiepnnkaa
open Go.RowKit Go.Proofs.YtekhmkfiepnnkaaW.PrintWords
theorem sealBlocks_row {w : World} {cs : Array Value} {r : SR} (k : KRec.K w r cs.toList) (hr : r.ok) (n : Int) (hn : (Lit.int .i64 n).wf = true) :
    Calls Try.prog 5 #[.agg cs, .int .i64 n] w fun e w' => e = .returned (.bool true) ∧ Below w.heap.size w w' := by
  obtain ⟨A, c, he, hl, hC⟩ := KRec_open k
  have e : Value.agg cs = recV r A c := by
    have : cs = (r.cells A c).toArray := by rw [← he]
    rw [this]; rfl
  rw [e]
  have := bounds_i64 hn
  exact sealBlocks22_any r n hC hl hr (by omega)
end Go.Proofs.Ytekhmkfiepnnkaa

set_option linter.unusedVariables false
set_option linter.unusedSimpArgs false
namespace Go.Proofs.Ytekhmkfiepnnkaa
open Go.ChangeShapes Go.WideShapes Go.ChangeAt Go.RowKit Go.Proofs.YtekhmkfiepnnkaaW.PrintWords
open Go.ChangeMaps (open_string shut_string)
set_option linter.unusedVariables false
theorem sealBlocks_own : ownKnob Try.prog.godebug = none := by kernel_rfl
theorem sealBlocks_laid : laidOutB Try.prog = true := by kernel_rfl
set_option maxRecDepth 100000 in
theorem sealBlocks_lifted (os : Os) (started : os.Started) (H : Type) (enc : TypeId × Value → H) :
    ReturnsInHanded {} Try.checked os 5 .any (Rows.sealBlocksSpec.pre6 enc Try.prog Try.f5 Rows.sealBlocksRow.domain false) (Rows.sealBlocksSpec.post enc Try.prog Try.f5 false true false false) := by
  refine returnsInHanded_of_change_sized (C := Try.checked) sealBlocks_own started (by kernel_rfl) Try.func5
    (ChangeSpec.witness6 (enc := enc) (C := Try.checked) false ⟨#[], #[.agg #[.int .u64 0, .int .i64 0, .int .i64 0, .slice none 0 0], .int .i64 0], []⟩ 8 (by kernel_rfl) (by kernel_rfl) (by kernel_rfl) (by kernel_rfl)) ?_
  intro W base args ds gs before hval0 hW hcnd hsz0 _
  have hsz : (DataW.weightsEach Try.prog (Try.f5.params.toList ++ Rows.sealBlocksSpec.plain.varTypes Try.prog) (ds ++ gs)).all (· ≤ reachBytes) = true := hsz0
  have hval : ∀ (j : Nat) t v, Try.f5.params[j]? = some t → args[j]? = some v → Value.okWide Try.prog W .any base t v := hval0
  have hW' := hW
  obtain ⟨p, q, hA0, hV, rfl, hfz, hnd⟩ := hW
  have hA : DataW.TrodAll enc Try.prog W 0 (fun _ => true) true Try.f5.params.toList args.toList ds p := hA0
  rw [Try.params5] at hA hval hsz
  obtain ⟨v0, vs0, d0, ds0, p0, q0, hargs, rfl, rfl, h0, r0⟩ := trodAll_cons hA
  obtain ⟨v1, vs1, d1, ds1, p1, q1, rfl, rfl, rfl, h1, r1⟩ := trodAll_cons r0
  obtain ⟨rfl, rfl, rfl⟩ := trodAll_nil r1
  obtain rfl : args = #[v0, v1] := by cases args; simp_all
  obtain ⟨rfl, rfl⟩ := trodVars_none hV
  have lt0 : ∀ x ∈ p0, x.block < W.heap.size := by obtain ⟨m, hm⟩ := h0; exact DataW.trod_lt m _ _ _ hm
  obtain ⟨cs0, rfl, _⟩ := okWide_struct Try.underlying28 (hval 0 28 v0 rfl rfl)
  obtain ⟨x0, k0, g0⟩ := opens_rec.arg hsz (j := 0) (t := 28) rfl rfl h0
  obtain ⟨n1, rfl, rfl, rfl, g1⟩ := open_int Try.underlying3 (hval 1 3 v1 rfl rfl) h1
  clear hA0 hval0 hsz0 hsz
  refine (sealBlocks_row k0 g0 n1 g1).mono fun e W' ⟨he, bel⟩ => ?_
  subst he
  exact ⟨_, rfl, _, _, _, [], _, [], hW', trodAll_mk1 (shut_bool Try.underlying4 _), (trodAll_cons_mk (Below.trod sealBlocks_laid (by kernel_rfl) (of_decide_eq_true (by kernel_rfl)) h0 bel lt0) (trodAll_cons_mk (shut_int Try.underlying3 g1) trodAll_mk0)), rfl, bel.frame _, fun h => by cases h⟩
theorem sealBlocks_over : Rows.sealBlocksRow.holds Try.pinned (OpenSpec.ofChange Rows.sealBlocksSpec) :=
  OpenClaim.holds_of_wide 5 Try.f5 rfl rfl rfl rfl rfl rfl rfl ⟨rfl, rfl, rfl, rfl, rfl⟩ rfl rfl rfl rfl rfl (by kernel_rfl) Try.func5 (by kernel_rfl)
    (of_decide_eq_true (by kernel_rfl)) (by unfold Func.isWrapper; first | (rw [if_pos (by decide +kernel)]; kernel_rfl) | (rw [if_neg (by decide +kernel)]; exact ⟨rfl, rfl⟩))
    (fun os started H enc _ => sealBlocks_lifted os started H enc)
/-- The row, for the claim. -/
theorem sealBlocks_holds : Rows.SealBlocksSaid := sealBlocks_over
#print axioms sealBlocks_holds
end Go.Proofs.Ytekhmkfiepnnkaa
