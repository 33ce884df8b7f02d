/- WireCut answers true, where what comes in is not too long. -/
import Derived.Test.YtiecljhgpbifjaaLaw03D
set_option linter.unusedVariables false
set_option linter.unusedSimpArgs false
namespace Go.Proofs.Ytiecljhgpbifjaa
open Go.RowKit Go.Proofs.YtiecljhgpbifjaaW.PrintWords

/-- Where the first values end. -/
def endK (l : List OQ) (k : Nat) : Nat := (allB (l.take k)).length
def ends (l : List OQ) (k : Nat) : List Int := (List.range k).map fun i => ((endK l (i + 1) : Nat) : Int)
theorem ends_len (l : List OQ) (k : Nat) : (ends l k).length = k := by simp [ends]
theorem ends_succ (l : List OQ) (k : Nat) : ends l k ++ [((endK l (k + 1) : Nat) : Int)] = ends l (k + 1) := by simp [ends, List.range_succ]
theorem ends_get (l : List OQ) {n k : Nat} (h : k < n) : rdOf 0 (ends l n) k = (endK l (k + 1) : Nat) := by simp [rdOf, ends, List.getD_eq_getElem?_getD, h]
theorem endK_succ {l : List OQ} {k : Nat} (h : k < l.length) : endK l (k + 1) = endK l k + l[k].B.length := by
  unfold endK
  rw [← allB_take h, List.length_append]
theorem endK_drop (l : List OQ) (k : Nat) : (allB l).length = endK l k + (allB (l.drop k)).length := by
  unfold endK allB
  rw [← List.length_append, ← List.flatMap_append, List.take_append_drop]
abbrev KI : Kd Int := Kd.int .i64
set_option maxRecDepth 100000 in
set_option maxHeartbeats 4000000 in
theorem wirecut_any {w : World} {B : Option Addr} {d : Nat} {l : List OQ} (cut : Int) (hcut : -9223372036854775808 ≤ cut ∧ cut ≤ 9223372036854775807) (hL : KOQ.C w B l.length l) (hG : (∀ x ∈ l, x.ok) ∧ l.length * 96 ≤ 140737488351232) (hm : (l.map OQ.m).sum ≤ 1048576) :
  Calls Try.prog 6 #[.slice B l.length d, .int .i64 cut] w fun e w' => e = .returned (.bool true) ∧ Below w.heap.size w w' := by
  have hT : (allB l).length ≤ 16777216 := by have := allB_len l; omega
  have h0 := new_writer w
  have hB0 : Below w.heap.size w (w.alloc (.cells #[.slice none 0 0] 26)) := below_alloc (Below.refl _ _) _
  have hstart : ∃ okw : Nat → Prop, PWr (w.alloc (.cells #[.slice none 0 0] 26)) okw w.heap.size [] ∧ (∀ j, okw j → w.heap.size ≤ j ∧ j < (w.alloc (.cells #[.slice none 0 0] 26)).heap.size) :=
    ⟨_, h0.bound, fun j hj => hj⟩
  have hb9 : (l.length : Int) ≤ 140737488351232 := by omega
  clear h0
  go_enter Try.func6, Try.ntmps6
  go_wp2_with fail
  go_loopw [6, 7] (fun v i wr => ∃ (k : Nat) (okw : Nat → Prop), k ≤ l.length ∧ i = .int .i64 k ∧ PWr wr okw w.heap.size (allB (l.take k)) ∧ (∀ j, okw j → w.heap.size ≤ j ∧ j < wr.heap.size) ∧ KI.R 3 wr w.heap.size (fun j => w.heap.size ≤ j ∧ ¬ okw j) v (ends l k) ∧ Below w.heap.size w wr) (fun _ i _ => l.length - (intOf i).toNat)
  case atStart =>
    obtain ⟨okw, h1, h2⟩ := hstart
    exact ⟨0, okw, Nat.zero_le _, rfl, h1, h2, Kd.R_nil _ _ _ _ _, hB0⟩
  case round =>
    clear hstart hB0
    obtain ⟨k, okw, hk, rfl, hw, hok, hR, hBw⟩ := hrel
    by_cases hlt : k < l.length
    · have hlt' : (k : Int) < (l.length : Int) := by omega
      cases B with
      | none =>
        have := C_none hL
        subst this
        simp at hlt
      | some ad =>
      obtain ⟨A1, e1, A2, e2, hcell, hCl, hCt⟩ := oq_at hL hlt
      have hstep := allB_take hlt
      have hle := allB_le hlt
      have hes := ends_succ l k
      have hel := ends_len l k
      have hek : endK l (k + 1) = (allB (l.take (k + 1))).length := rfl
      have ho := hG.1 l[k] (List.getElem_mem hlt)
      generalize l[k] = o at hcell hCl hCt hstep hle ho
      have hcw : ∀ j v, (o.cells A1 e1 A2 e2)[j]? = some v → wr.cell? ((ad.add (k * 7)).add j) = some v := fun j v hj => pw_cell_below hBw (hcell j v hj)
      rw [hek] at hes
      generalize hTk : allB (l.take k) = T at hw hstep hle
      generalize hTk1 : allB (l.take (k + 1)) = T1 at hstep hes
      have HT1 := hid hTk1
      have HES := hid hes
      clear hTk hTk1 hes hek
      go_wp2_with (refine wpList_load_addr rfl 32 (.tmp 22) rfl (ad.add (k * 7)) rfl [.int .i64 o.kind, .int .u64 o.n, .string o.s, .slice A1 o.l.length e1, .slice A2 o.t.length e2, .int .i64 o.most, .int .i64 o.long] _ hcw Try.underlying32 rfl (by kernel_rfl) ?_)
      go_wp2_with fail
      refine (write_any (A := A1) (c := e1) (A2 := A2) (c2 := e2) o ho hw (fun j hj => (hok j hj).2) (by omega) (fun w' hc => Kd.C_below hCl (hBw.trans (hc.below_ (B := w.heap.size) hBw.size (fun j hj => (hok j hj).1)))) (fun w' hc => Kd.C_below hCt (hBw.trans (hc.below_ (B := w.heap.size) hBw.size (fun j hj => (hok j hj).1))))).mono ?_
      rintro e w2 ⟨rfl, h2, c2⟩
      have hB2 : Below w.heap.size w w2 := hBw.trans (c2.below_ (B := w.heap.size) hBw.size (fun j hj => (hok j hj).1))
      have s2 := c2.size
      have hR2 : KI.R 3 w2 w.heap.size (fun j => w.heap.size ≤ j ∧ ¬ (orNew okw wr j ∧ j < w2.heap.size)) u6 (ends l k) :=
        Kd.R_step (w1 := w2) (Kd.R_mono (Kd.R_bound hR) (fun j hj => ⟨hj.1.1, fun e => e.1.elim hj.1.2 (fun h => by have := hj.2.2.1; omega)⟩)) (fun j hj hlt => c2.block j hlt (fun e => hj.2 ⟨.inl e, by omega⟩))
      have hw2 := h2.bound
      rw [hstep] at hw2
      have hok2 : ∀ j, (orNew okw wr j ∧ j < w2.heap.size) → w.heap.size ≤ j ∧ j < w2.heap.size := fun j hj => ⟨hj.1.elim (fun h => (hok j h).1) (fun h => Nat.le_trans hBw.size h), hj.2⟩
      have hln := wlen_any hw2
      clear hcw h2 c2 hw hR
      go_wp2_with fail
      refine hln.mono ?_
      rintro e w3 ⟨rfl, rfl⟩
      go_wp2_with (at_builtin; refine print_append_num (w0 := w2) w.heap.size rfl (.tmp 25) (.tmp 28) 29 3 .i64 8 rfl Try.underlying29 info_int (by decide) _ (ends l k) (T1.length : Int) rfl rfl ?HO ?HB ?hb ?hl ?_)
      case HO => exact R_own1 hR2
      case HB => exact Below.refl _ _
      case hb => have := hBw.size; omega
      case hl => rw [hel]; omega
      intro v4 w4 ho4 hB4 hg4 hat4
      have ho5 : w4.ownsRow w.heap.size 3 1 v4 (ends l (k + 1)).length (nums .i64 (ends l (k + 1))) := by rw [← HES.out, List.length_append, hel]; exact ho4
      have h0R := hR2.1
      have hR4 : KI.R 3 w4 w.heap.size (fun j => w.heap.size ≤ j ∧ ¬ (orNew okw wr j ∧ j < w2.heap.size)) v4 (ends l (k + 1)) := Rown ho5 (fun j hj => by
        rcases hat4 with h | ⟨q, h, hq⟩
        · rw [hj] at h; exact h0R j h.symm
        · rw [hj] at h; injection h with h; subst h; exact ⟨by have := hBw.size; omega, fun e => by omega⟩)
      have hw4 := hw2.step (w1 := w4) (fun j hj hlt => hg4.block j hlt (fun e => (h0R j e.symm).2 hj))
      have hB4w : Below w.heap.size w w4 := hB2.trans hB4
      have hok4 : ∀ j, (orNew okw wr j ∧ j < w2.heap.size) → w.heap.size ≤ j ∧ j < w4.heap.size := fun j hj => ⟨(hok2 j hj).1, by have := hg4.size; omega⟩
      have HF := hid (And.intro hw4 (And.intro hok4 (And.intro hR4 hB4w)))
      clear hw4 hok4 hR4 hB4w hR2 hw2 hB2 ho4 ho5 hB4 hg4 hat4 h0R hok2 hln
      go_wp2
      go_roundw
      case rel => exact ⟨k + 1, _, by omega, by go_num, by rw [HT1.out]; exact HF.out⟩
      case measure => simp [intOf]; omega
    · obtain rfl : k = l.length := by omega
      rw [List.take_length] at hw
      have hsw := hBw.size
      obtain ⟨Ae, ce, rfl, _, hKe⟩ := Kd.R_reads hR
      rw [ends_len] at hKe ⊢
      clear hR
      go_wp2_with fail
      refine (wbytes_any hw (by omega)).mono ?_
      rintro e w2 ⟨A2, c2, rfl, hR2, hB2⟩
      have s2 := hB2.size
      have hKe2 := Kd.C_below hKe hB2
      have hBw2 : Below w.heap.size w w2 := hBw.trans (hB2.mono hsw)
      have hTb := allB_bytes l
      have hed := endK_drop l
      obtain ⟨A9, c9, he9, hc9, hK2⟩ := Kd.R_reads hR2
      injection he9 with q1 q2 q3
      subst q1
      subst q3
      have hF2 : RB w2 (fun j => wr.heap.size ≤ j) A2 (allB l) := (R_RB hR2).2
      clear hw hKe hR2
      by_cases hneg : cut < 0
      · go_wp2_with fail
        refine (alive_any w2).mono ?_
        rintro e w3 ⟨rfl, hB3⟩
        have HB := hid (hBw2.trans (hB3.mono hBw2.size))
        clear hBw2 hB3
        go_wp2
        go_ret
        exact ⟨rfl, HB.out⟩
      by_cases hbig : ((allB l).length : Int) < cut
      · go_wp2_with fail
        refine (alive_any w2).mono ?_
        rintro e w3 ⟨rfl, hB3⟩
        have HB := hid (hBw2.trans (hB3.mono hBw2.size))
        clear hBw2 hB3
        go_wp2
        go_ret
        exact ⟨rfl, HB.out⟩
      obtain ⟨q, rfl⟩ := Int.eq_ofNat_of_zero_le (show 0 ≤ cut by omega)
      have hq : q ≤ (allB l).length := by omega
      have hlq : ((allB l).take q).length = q := by rw [List.length_take]; omega
      have hqc : (q : Int) ≤ (c2 : Int) := by omega
      go_wp2_with fail
      refine (alive_any w2).mono ?_
      rintro e w3 ⟨rfl, hB3⟩
      have s3 := hB3.size
      have hFq := Kd.F_now (RB_below (RB_take hF2 hq) hB3)
      have hrd := read_any (c := c2) hFq (hTb.take q) (by rw [hlq]; omega)
      rw [hlq] at hrd
      go_wp2_with fail
      refine hrd.mono ?_
      rintro e w4 ⟨p, rfl, hP, hB4⟩
      have s4 := hB4.size
      have hpk : w3.heap.size ≤ p ∧ p < w4.heap.size := by obtain ⟨_, h, _⟩ := hP; exact h.okp
      have hBw4 : Below w2.heap.size w2 w4 := hB3.trans (hB4.mono s3)
      have hw24 : w.heap.size ≤ w2.heap.size := by omega
      have hTl : (allB l).length ≤ 16777216 := hT
      generalize hn2 : w3.heap.size = n2 at hP hpk s3 s4
      generalize hn3 : w4.heap.size = n3 at hP hpk s4
      have hBz : Below w.heap.size w w4 := hBw2.trans (hBw4.mono hw24)
      have hcellE : ∀ (W' : World) (k : Nat), Below n2 w4 W' → k < l.length → ∃ ae, Ae = some ae ∧ W'.cell? (ae.add k) = some (.int .i64 ((endK l (k + 1) : Nat) : Int)) := fun W' k hb hk => by
        obtain ⟨ae, he, hce⟩ := (Kd.reads_of_C (enc := Value.int .i64) (d := (0 : Int)) (h1 := fun _ => rfl) (Kd.C_below hKe2 (hBw4.trans (hb.mono s3)))).at_ (k : Int) (by omega) (by omega)
        simp only [Int.toNat_natCast] at hce
        rw [ends_get l hk] at hce
        exact ⟨ae, he, hce⟩
      have hbz : ∀ W', Below n2 w4 W' → Below w.heap.size w W' := fun W' hb => hBz.trans (hb.mono (by omega))
      have hsz : ∀ W', Below n2 w4 W' → n3 ≤ W'.heap.size := fun W' hb => hn3 ▸ hb.size
      clear hrd hFq hF2 hB3 hB4 hKe2 hBw2 hBw4 hTb hK2 hBz
      go_wp2_with fail
      go_loopw [10] (fun i wr => ∃ k : Nat, k ≤ l.length ∧ i = .int .i64 k ∧ endK l k ≤ q ∧ PSt wr (fun j => n2 ≤ j ∧ j < n3) p ⟨(allB (l.drop k)).take (q - endK l k), 0⟩ ∧ Below n2 w4 wr) (fun i _ => l.length - (intOf i).toNat)
      case atStart => exact ⟨0, Nat.zero_le _, rfl, by simp [endK, allB], by simpa [endK, allB] using hP, Below.refl _ _⟩
      case round =>
        clear hP
        obtain ⟨k, hk, rfl, hek, hP5, hb5⟩ := hrel
        have hBw5 := hbz wr hb5
        have hn5 := hsz wr hb5
        by_cases hlt : k < l.length
        · have hlt' : (k : Int) < (l.length : Int) := by omega
          cases B with
          | none =>
            have := C_none hL
            subst this
            simp at hlt
          | some ad =>
          obtain ⟨A1, e1, A3, e3, hcell, hCl, hCt⟩ := oq_at hL hlt
          have hstep := allB_drop hlt
          have hes := endK_succ hlt
          have hed1 := endK_drop l (k + 1)
          have ho := hG.1 l[k] (List.getElem_mem hlt)
          have hmk := Nat.le_trans (m_mem (List.getElem_mem hlt)) hm
          obtain ⟨ae, rfl, hce⟩ := hcellE wr k hb5 hlt
          have hceN := fun W' (hb : Below n2 w4 W') => hcellE W' k hb hlt
          generalize l[k] = o at hcell hCl hCt hstep hes ho hmk
          generalize hE1 : endK l (k + 1) = E1 at hce hes hed1 hceN
          generalize hE0 : endK l k = E0 at hek hP5 hes
          replace hes : E1 ≤ E0 + o.B.length ∧ E0 + o.B.length ≤ E1 := by omega
          replace hed1 : (allB l).length ≤ E1 + (allB (l.drop (k + 1))).length ∧ E1 + (allB (l.drop (k + 1))).length ≤ (allB l).length := by omega
          rw [hstep] at hP5
          have hcw : ∀ j v, (o.cells A1 e1 A3 e3)[j]? = some v → wr.cell? ((ad.add (k * 7)).add j) = some v := fun j v hj => pw_cell_below hBw5 (hcell j v hj)
          have hbeln : ∀ w', Chg (fun k => k = p) wr w' → Below n2 w4 w' := fun w' hc => hb5.trans (hc.below_ (B := n2) (by omega) (fun j hj => by omega))
          have hbel : ∀ w', Chg (fun k => k = p) wr w' → Below w.heap.size w w' := fun w' hc => hbz w' (hbeln w' hc)
          by_cases hover : q < E1
          · have hgt : (q : Int) < (E1 : Int) := by omega
            rw [List.take_append_of_le_length (by omega)] at hP5
            go_wp2_with (refine wpList_load_addr rfl 32 (.tmp 66) rfl (ad.add (k * 7)) rfl [.int .i64 o.kind, .int .u64 o.n, .string o.s, .slice A1 o.l.length e1, .slice A3 o.t.length e3, .int .i64 o.most, .int .i64 o.long] _ hcw Try.underlying32 rfl (by kernel_rfl) ?_)
            go_wp2_with fail
            refine (back_bad (A := A1) (c := e1) (A2 := A3) (c2 := e3) o ho hmk (j := q - E0) (by omega) hP5 (fun j hj => by omega) (fun w' hc => Kd.C_below hCl (hbel w' hc)) (fun w' hc => Kd.C_below hCt (hbel w' hc))).mono ?_
            rintro e w6 ⟨⟨v, rfl⟩, hP6, hc6⟩
            have hB6 := hbel w6 hc6
            have hn6 : n3 ≤ w6.heap.size := Nat.le_trans hn5 hc6.size
            have herr := errs_any hP6
            have hdn := done_any hP6
            have hlf := left_any hP6
            have hlg := mLong_any hP6 (fun j hj => by omega)
            have g1 : (⟨[], 40⟩ : St).done = 40 := rfl
            have g2 : (⟨[], 40⟩ : St).left = 0 := rfl
            have g3 : (⟨[], 40⟩ : St).out (oNum 8 []) (0 : Int) = 0 := rfl
            rw [g1] at hdn
            rw [g2] at hlf
            clear hcw hbel hbeln hP5 hc6 hP6 hce hceN
            go_wp2_with fail
            refine herr.mono ?_
            rintro e w7 ⟨rfl, rfl⟩
            go_wp2_with fail
            refine hdn.mono ?_
            rintro e w7 ⟨rfl, rfl⟩
            go_wp2_with fail
            refine hlf.mono ?_
            rintro e w7 ⟨rfl, rfl⟩
            go_wp2_with fail
            refine hlg.mono ?_
            rintro e w7 ⟨u, rfl, rfl, _, hc7⟩
            rw [g3]
            have HB := hid (hB6.trans (hc7.below_ (B := w.heap.size) hB6.size (fun j hj => by omega)))
            clear hB6 hc7 herr hdn hlf hlg
            go_wp2
            go_ret
            exact ⟨rfl, HB.out⟩
          · have hgt : ¬ (q : Int) < (E1 : Int) := by omega
            have hsub : q - E0 = o.B.length + (q - E1) := by omega
            rw [hsub, List.take_length_add_append] at hP5
            clear hsub
            have hP5d := PSt.below hP5 (below_drew (Below.refl _ _))
            have hwsub : IntKind.i64.wrap ((q : Int) - E1) = q - E1 := by rw [IntKind.wrap_i64]; omega
            go_wp2_with fail
            refine wp_region_plan [] (.take 0 (.take 1 (.take 2 (.take 3 (.take 4 (.run 5 (.take 6 (.take 7 (.take 8 (.run 9 (.take 10 (.take 11 (.take 12 (.take 13 (.take 15 (.take 16 (.take 17 (.take 18 (.take 19 (.take 20 (.run 14 (.take 21 (.take 22 .done))))))))))))))))))))))) (fun w' => (∀ j v, (o.cells A1 e1 A3 e3)[j]? = some v → w'.cell? ((ad.add (k * 7)).add j) = some v) ∧ w'.cell? (ae.add k) = some (.int .i64 E1)) (by kernel_rfl) (by kernel_rfl) (fun c a d v w h => by cases d <;> exact h) ⟨hcw, hce⟩ ?_
            iterate 4 (apply plan_take rfl rfl; (case hy => (intro w' hS; clear hS; go_simp; try exact rfl)); go_simp)
            apply plan_take rfl rfl
            case hy =>
              intro w' hS
              refine exec_load_row 32 (.tmp 90) ?_ (ad.add (k * 7)) ?_ [.int .i64 o.kind, .int .u64 o.n, .string o.s, .slice A1 o.l.length e1, .slice A3 o.t.length e3, .int .i64 o.most, .int .i64 o.long] _ ?_ Try.underlying32 ?_ ?_
              · exact rfl
              · exact rfl
              · exact hS.1
              · exact rfl
              · kernel_rfl
            go_simp
            refine plan_run_on rfl rfl (fun K hK => ?_)
            go_simp
            have hbeld : ∀ w', Chg (fun k => k = p) wr.drew w' → Below n2 w4 w' := fun w' hc => (below_drew hb5).trans (hc.below_ (B := n2) (by show n2 ≤ wr.heap.size; omega) (fun j hj => by omega))
            refine (back_good (A := A1) (c := e1) (A2 := A3) (c2 := e3) o ho hmk hP5d (fun j hj => by show j < wr.heap.size; omega) (fun w' hc => Kd.C_below hCl (hbz _ (hbeld w' hc))) (fun w' hc => Kd.C_below hCt (hbz _ (hbeld w' hc)))).mono ?_
            rintro e w6 ⟨rfl, hP6, hc6⟩
            have hb6 := hbeld w6 hc6
            have hB6 := hbz w6 hb6
            have hcw6 : ∀ j v, (o.cells A1 e1 A3 e3)[j]? = some v → w6.cell? ((ad.add (k * 7)).add j) = some v := fun j v hj => pw_cell_below hB6 (hcell j v hj)
            obtain ⟨ae', h', hce6⟩ := hceN w6 hb6
            injection h' with h'
            subst h'
            refine hK _ _ _ (fun _ h => h) ⟨hcw6, hce6⟩ ?_
            clear hK K
            have herr := errs_any hP6
            have hlf := left_any hP6
            have g2 : (⟨(allB (l.drop (k + 1))).take (q - E1), 0⟩ : St).left = (q : Int) - E1 := by
              show (((allB (l.drop (k + 1))).take (q - E1)).length : Int) = _
              rw [List.length_take]
              omega
            rw [g2] at hlf
            iterate 3 (apply plan_take rfl rfl; (case hy => (intro w' hS; clear hS; go_simp; try exact rfl)); go_simp)
            refine plan_run_on rfl rfl (fun K hK => ?_)
            go_simp
            refine herr.mono ?_
            rintro e w7 ⟨rfl, rfl⟩
            refine hK _ _ _ (fun _ h => h) ⟨hcw6, hce6⟩ ?_
            clear hK K
            iterate 8 (apply plan_take rfl rfl; (case hy => (intro w' hS; clear hS; go_simp; try exact rfl)); go_simp)
            apply plan_take rfl rfl
            case hy => (intro w' hS; have s1 := hS.2; clear hS; go_simp; try exact rfl)
            go_simp
            iterate 1 (apply plan_take rfl rfl; (case hy => (intro w' hS; clear hS; go_simp; try exact rfl)); go_simp)
            refine plan_run_on rfl rfl (fun K hK => ?_)
            go_simp
            refine hlf.mono ?_
            rintro e w7 ⟨rfl, rfl⟩
            refine hK _ _ _ (fun _ h => h) ⟨hcw6, hce6⟩ ?_
            clear hK K
            iterate 2 (apply plan_take rfl rfl; (case hy => (intro w' hS; clear hS; go_simp; try exact rfl)); go_simp)
            refine plan_done ?_
            have HF := hid (And.intro hP6 hb6)
            clear hP6 hb6 hc6 hcw6 hce6 hB6 herr hlf hP5 hP5d
            go_wp2
            go_roundw
            case rel => exact ⟨k + 1, by omega, by go_num, by rw [hE1]; omega, by rw [hE1]; exact HF.out⟩
            case measure => simp [intOf]; omega
        · obtain rfl : k = l.length := by omega
          have HB := hid hBw5
          clear hBw5 hP5
          go_wp2
          go_ret
          exact ⟨rfl, HB.out⟩
end Go.Proofs.Ytiecljhgpbifjaa
