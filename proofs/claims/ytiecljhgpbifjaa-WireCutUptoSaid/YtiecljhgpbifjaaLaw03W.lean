/- foundrylaw03.WireWrites answers true where what comes in is not too long. -/
import Derived.Test.YtiecljhgpbifjaaLaw03R
import Derived.Test.YtiecljhgpbifjaaWireB
import Derived.Test.YtiecljhgpbifjaaOpenM
set_option linter.unusedVariables false
set_option linter.unusedSimpArgs false
namespace Go.Proofs.Ytiecljhgpbifjaa
open Go.RowKit Go.Proofs.YtiecljhgpbifjaaW.PrintWords

/-- All that is written. -/
def allB (l : List OQ) : List Int := l.flatMap OQ.B
def OQ.m (o : OQ) : Nat := o.s.size + o.l.length + (o.t.map (fun s => s.size + 1)).sum + 1
theorem texts_len (t : List ByteArray) : (t.flatMap fun s => rawB (bytesOf s)).length ≤ 4 * (t.map (fun s => s.size + 1)).sum := by
  induction t with
  | nil => simp
  | cons a r ih => simp only [List.flatMap_cons, List.length_append, rawB_length, bytesOf_length, List.map_cons, List.sum_cons]; omega
theorem OQ.B_len (o : OQ) : o.B.length ≤ 12 * o.m := by
  have h1 : (intsB o.l).length = 4 + 4 * o.l.length := by
    unfold intsB
    rw [List.length_append, be_length]
    have : ∀ m : List Int, (m.flatMap fun n => be (n % 2147483648) 4).length = 4 * m.length := fun m => by
      induction m with
      | nil => rfl
      | cons a m ih => simp only [List.flatMap_cons, List.length_append, be_length, ih, List.length_cons]; omega
    rw [this]
  have h2 := texts_len o.t
  have h3 : (textsB o.t).length = 4 + (o.t.flatMap fun s => rawB (bytesOf s)).length := by unfold textsB; rw [List.length_append, be_length]
  have h4 := rawB_length (bytesOf o.s)
  rw [bytesOf_length] at h4
  unfold OQ.B OQ.m
  repeat' split
  all_goals simp only [List.length_cons, List.length_nil, be_length, h1, h3, h4]
  all_goals omega
theorem allB_len (l : List OQ) : (allB l).length ≤ 12 * (l.map OQ.m).sum := by
  induction l with
  | nil => simp [allB]
  | cons a r ih =>
    have := a.B_len
    simp only [allB, List.flatMap_cons, List.length_append, List.map_cons, List.sum_cons] at ih ⊢
    omega
theorem opensM_texts : OpensM Try.prog 30 (Kd.slice 9 Kd.string) (fun xs => (∀ x ∈ xs, x.size ≤ 140737488351232) ∧ xs.length * 16 ≤ 140737488351232) (fun xs => (xs.map (fun s => s.size + 1)).sum + 1) :=
  opensM_slice Try.underlying30 (by kernel_rfl) (by kernel_rfl) (opensM_string Try.underlying9)
theorem opensM_ints : OpensM Try.prog 29 (Kd.slice 3 (Kd.int .i64)) (fun xs => (∀ x ∈ xs, (Lit.int .i64 x).wf = true) ∧ xs.length * 8 ≤ 140737488351232) (fun xs => xs.length) :=
  (opensM_slice Try.underlying29 (by kernel_rfl) (B := 8) (by kernel_rfl) (opens_int Try.underlying3).one).mono (fun _ h => h) (fun xs => by
    have : (xs.map fun _ => 1).sum = xs.length := by induction xs with
      | nil => rfl
      | cons a r ih => simp only [List.map_cons, List.sum_cons, ih, List.length_cons]; omega
    omega)
theorem opensM_oq : OpensM Try.prog 32 KOQ OQ.ok OQ.m := by
  refine (opensM_iso (P := Try.prog) (t := 32) (fun x : OQ => (x.kind, x.n, x.s, x.l, x.t, x.most, x.long)) (fun p => ⟨p.1, p.2.1, p.2.2.1, p.2.2.2.1, p.2.2.2.2.1, p.2.2.2.2.2.1, p.2.2.2.2.2.2⟩) (fun _ => rfl)
    (opensM_struct Try.underlying32 (by kernel_rfl) (opensMF_cons rfl (by kernel_rfl) (opens_int Try.underlying3).one (opensMF_cons rfl (by kernel_rfl) (opens_int Try.underlying28).one (opensMF_cons rfl (by kernel_rfl) (opensM_string Try.underlying9)
      (opensMF_cons rfl (by kernel_rfl) opensM_ints (opensMF_cons rfl (by kernel_rfl) opensM_texts (opensMF_cons rfl (by kernel_rfl) (opens_int Try.underlying3).one (opensMF_one rfl (by kernel_rfl) (opens_int Try.underlying3).one))))))))).mono ?_ ?_
  · rintro o ⟨_, h1, h2, h3, h4, h5, h6⟩
    have b1 := bounds_u64 h1
    have b2 := bounds_i64 h5
    have b3 := bounds_i64 h6
    exact ⟨⟨b1.1, Int.lt_add_one_of_le b1.2⟩, h2, h3.2, h4.2, b2, b3⟩
  · intro o
    unfold OQ.m
    dsimp only
    omega
theorem opensM_oqs : OpensM Try.prog 22 (Kd.slice 32 KOQ) (fun xs => (∀ x ∈ xs, x.ok) ∧ xs.length * 96 ≤ 140737488351232) (fun xs => (xs.map OQ.m).sum) :=
  (opensM_slice Try.underlying22 (by kernel_rfl) (by kernel_rfl) opensM_oq).mono (fun _ h => h) (fun _ => Nat.le_succ _)
theorem allB_take {l : List OQ} {k : Nat} (h : k < l.length) : allB (l.take k) ++ l[k].B = allB (l.take (k + 1)) := flat_take_succ h OQ.B
theorem allB_le {l : List OQ} {k : Nat} (h : k < l.length) : (allB (l.take k)).length + l[k].B.length ≤ (allB l).length := flat_get_le h OQ.B
set_option maxRecDepth 100000 in
set_option maxHeartbeats 4000000 in
theorem writes_any {w : World} {B : Option Addr} {d : Nat} {l : List OQ} (hL : KOQ.C w B l.length l) (hG : (∀ x ∈ l, x.ok) ∧ l.length * 96 ≤ 140737488351232) (hT : (allB l).length ≤ 16777216) :
  Calls Try.prog 3 #[.slice B l.length d] w fun e w' => e = .returned (.bool true) ∧ Below w.heap.size w w' := by
  have h0 := new_writer w
  have hB0 : Below w.heap.size w (w.alloc (.cells #[.slice none 0 0] 26)) := below_alloc (Below.refl _ _) _
  have hstart : ∃ okw : Nat → Prop, PWr (w.alloc (.cells #[.slice none 0 0] 26)) okw w.heap.size [] ∧ (∀ j, okw j → w.heap.size ≤ j ∧ j < (w.alloc (.cells #[.slice none 0 0] 26)).heap.size) :=
    ⟨_, h0.bound, fun j hj => hj⟩
  clear h0
  go_enter Try.func3, Try.ntmps3
  go_wp2_with fail
  go_loopw [4, 5] (fun v i wr => ∃ (k : Nat) (okw : Nat → Prop), k ≤ l.length ∧ i = .int .i64 k ∧ PWr wr okw w.heap.size (allB (l.take k)) ∧ (∀ j, okw j → w.heap.size ≤ j ∧ j < wr.heap.size) ∧ KB.R 5 wr w.heap.size (fun j => w.heap.size ≤ j ∧ ¬ okw j) v (allB (l.take k)) ∧ Below w.heap.size w wr) (fun _ i _ => l.length - (intOf i).toNat)
  case atStart =>
    obtain ⟨okw, h1, h2⟩ := hstart
    exact ⟨0, okw, Nat.zero_le _, rfl, h1, h2, Kd.R_nil _ _ _ _ _, hB0⟩
  case round =>
    clear hstart hB0
    obtain ⟨k, okw, hk, rfl, hw, hok, hR, hBw⟩ := hrel
    have hb9 : (l.length : Int) ≤ 140737488351232 := by omega
    by_cases hlt : k < l.length
    · have hlt' : (k : Int) < (l.length : Int) := by omega
      cases B with
      | none =>
        have := C_none hL
        subst this
        simp at hlt
      | some ad =>
      obtain ⟨A1, e1, A2, e2, hcell, hCl, hCt⟩ := oq_at hL hlt
      have hadb : (ad.add (k * 7)).block < w.heap.size := by
        have := World.block_lt_of_cell? w _ (hcell 0 _ rfl)
        rwa [block_of_add'] at this
      have hstep := allB_take hlt
      have hle := allB_le hlt
      have ho := hG.1 l[k] (List.getElem_mem hlt)
      generalize l[k] = o at hcell hCl hCt hstep hle ho
      have hcw : ∀ j v, (o.cells A1 e1 A2 e2)[j]? = some v → wr.cell? ((ad.add (k * 7)).add j) = some v := fun j v hj => pw_cell_below hBw (hcell j v hj)
      obtain ⟨A, c, rfl⟩ := Kd.R_slice hR
      generalize hTk : allB (l.take k) = T at hw hR hstep hle
      generalize hTk1 : allB (l.take (k + 1)) = T1 at hstep
      have HT1 := hid hTk1
      clear hTk hTk1
      go_wp2_with (refine wpList_load_addr rfl 32 (.tmp 19) rfl (ad.add (k * 7)) rfl [.int .i64 o.kind, .int .u64 o.n, .string o.s, .slice A1 o.l.length e1, .slice A2 o.t.length e2, .int .i64 o.most, .int .i64 o.long] _ hcw Try.underlying32 rfl (by kernel_rfl) ?_)
      go_wp2_with fail
      refine (write_any (A := A1) (c := e1) (A2 := A2) (c2 := e2) o ho hw (fun j hj => (hok j hj).2) (by omega) (fun w' hc => Kd.C_below hCl (hBw.trans (hc.below_ (B := w.heap.size) hBw.size (fun j hj => (hok j hj).1)))) (fun w' hc => Kd.C_below hCt (hBw.trans (hc.below_ (B := w.heap.size) hBw.size (fun j hj => (hok j hj).1))))).mono ?_
      rintro e w2 ⟨rfl, h2, c2⟩
      have hB2 : Below w.heap.size w w2 := hBw.trans (c2.below_ (B := w.heap.size) hBw.size (fun j hj => (hok j hj).1))
      have s2 := c2.size
      have hR2 : KB.R 5 w2 w.heap.size (fun j => w.heap.size ≤ j ∧ ¬ (orNew okw wr j ∧ j < w2.heap.size)) (.slice A T.length c) T :=
        Kd.R_step (w1 := w2) (Kd.R_mono (Kd.R_bound hR) (fun j hj => ⟨hj.1.1, fun e => e.1.elim hj.1.2 (fun h => by have := hj.2.2.1; omega)⟩)) (fun j hj hlt => c2.block j hlt (fun e => hj.2 ⟨.inl e, by omega⟩))
      have hw2 := h2.bound
      rw [hstep] at hw2
      have hok2 : ∀ j, (orNew okw wr j ∧ j < w2.heap.size) → w.heap.size ≤ j ∧ j < w2.heap.size := fun j hj => ⟨hj.1.elim (fun h => (hok j h).1) (fun h => Nat.le_trans hBw.size h), hj.2⟩
      have hcw2 : ∀ j v, (o.cells A1 e1 A2 e2)[j]? = some v → w2.cell? ((ad.add (k * 7)).add j) = some v := fun j v hj => pw_cell_below hB2 (hcell j v hj)
      clear hcw h2 c2 hw hR
      go_wp2_with (refine wpList_load_addr rfl 32 (.tmp 25) rfl (ad.add (k * 7)) rfl [.int .i64 o.kind, .int .u64 o.n, .string o.s, .slice A1 o.l.length e1, .slice A2 o.t.length e2, .int .i64 o.most, .int .i64 o.long] _ hcw2 Try.underlying32 rfl (by kernel_rfl) ?_)
      go_wp2_with fail
      refine (bytes_any (A := A1) (c := e1) (A2 := A2) (c2 := e2) o ho (Kd.C_below hCl hB2) (Kd.C_below hCt hB2) (by omega)).mono ?_
      rintro e w3 ⟨A3, c3, rfl, hQ, hB3⟩
      have hR3 := Kd.R_below hR2 hB3
      have hw3 := hw2.step (w1 := w3) (fun j _ hj => hB3.block j hj)
      have s3 := hB3.size
      go_wp2_with (at_builtin; refine print_append_row (w0 := w3) w.heap.size rfl (.tmp 22) (.tmp 27) 24 5 .u8 1 rfl Try.underlying24 info_u8 (by decide) _ T o.B A3 o.B.length c3 rfl rfl ?HO ?HR ?HB ?hb ?hl ?_)
      case HO => exact R_own1 hR3
      case HR => exact hQ.reads
      case HB => exact Below.refl _ _
      case hb => have := hBw.size; omega
      case hl => omega
      intro v4 w4 ho4 hB4 hg4 hat4
      have h0R := hR3.1
      have hR4 : KB.R 5 w4 w.heap.size (fun j => w.heap.size ≤ j ∧ ¬ (orNew okw wr j ∧ j < w2.heap.size)) v4 T1 := Rown ho4 (fun j hj => by
        rcases hat4 with h | ⟨q, h, hq⟩
        · rw [hj] at h; exact h0R j h.symm
        · rw [hj] at h; injection h with h; subst h; exact ⟨by have := hBw.size; omega, fun e => by omega⟩)
      have hw4 := hw3.step (w1 := w4) (fun j hj hlt => hg4.block j hlt (fun e => (h0R j e.symm).2 hj))
      have hB4w : Below w.heap.size w w4 := (hB2.trans (hB3.mono (by have := hBw.size; omega))).trans hB4
      obtain ⟨A5, c5, rfl⟩ := Kd.R_slice hR4
      have hln := wlen_any hw4
      have hok4 : ∀ j, (orNew okw wr j ∧ j < w2.heap.size) → w.heap.size ≤ j ∧ j < w4.heap.size := fun j hj => ⟨(hok2 j hj).1, by have := hg4.size; omega⟩
      have HF := hid (And.intro hw4 (And.intro hok4 (And.intro hR4 hB4w)))
      clear hw4 hok4 hR4 hB4w hR3 hw3 hR2 hw2 hQ hB3 hB2 hcw2 ho4 hB4 hg4 hat4 h0R hok2
      go_wp2_with fail
      refine hln.mono ?_
      rintro e w5 ⟨rfl, rfl⟩
      clear hln
      go_wp2
      go_roundw
      case rel => exact ⟨k + 1, _, by omega, by go_num, by rw [HT1.out]; exact HF.out⟩
      case measure => simp [intOf]; omega
    · obtain rfl : k = l.length := by omega
      rw [List.take_length] at hw hR
      generalize allB l = T at hw hR hT
      obtain ⟨A, c, rfl, _, hK⟩ := Kd.R_reads hR
      have hRb : KB.R 5 wr w.heap.size (fun j => ¬ okw j ∧ j < wr.heap.size) (.slice A T.length c) T := Kd.R_mono (Kd.R_bound hR) (fun j hj => ⟨hj.1.2, hj.2.2.1⟩)
      have hsw := hBw.size
      clear hR
      go_wp2_with fail
      refine (wbytes_any hw (by omega)).mono ?_
      rintro e w2 ⟨A2, c2, rfl, hR2, hB2⟩
      have s2 := hB2.size
      have hcv1 := conv_str (c := c2) (Kd.F_now (R_RB hR2).2)
      have hcv2 := conv_str (c := c) (Kd.C_below hK hB2)
      go_wp2_with fail
      refine (alive_any w2).mono ?_
      rintro e w3 ⟨rfl, hB3⟩
      have s3 := hB3.size
      have ho3 := own_move (R_own1 hR2) (fun j hj => hB3.block j (own_lt (R_own1 hR2) j hj))
      have hw3 := (hw.step (w1 := w2) (fun j _ hj => hB2.block j hj)).step (w1 := w3) (fun j _ hj => hB3.block j hj)
      have hRb3 := Kd.R_below (Kd.R_below hRb hB2) hB3
      have hBw3 : Below w.heap.size w w3 := (hBw.trans (hB2.mono hsw)).trans (hB3.mono (by omega))
      generalize strOfNums T = TS at hcv1 hcv2
      clear hw hRb hR2 hK
      go_wp2_with fail
      clear hcv1 hcv2
      obtain ⟨n0, hn0⟩ : ∃ n0, wr.heap.size = n0 := ⟨_, rfl⟩
      rw [hn0] at ho3 hRb3 s2 hsw
      simp only [hn0] at hok
      go_loopw [7] (fun i wr => ∃ (k : Nat) (ys : List Int), k ≤ T.length ∧ i = .int .i64 k ∧ ys.length = T.length ∧ wr.ownsRow n0 5 1 (.slice A2 T.length c2) T.length (nums .u8 ys) ∧ Chg (fun z => n0 ≤ z) w3 wr) (fun i _ => T.length - (intOf i).toNat)
      case atStart => exact ⟨0, T, Nat.zero_le _, rfl, rfl, ho3, Chg.refl _ _⟩
      case round =>
        obtain ⟨k, ys, hk, rfl, hys, hor, hcr⟩ := hrel
        by_cases hlt : k < T.length
        · obtain ⟨g, cap, he, hgb, _⟩ := hor.form (by omega)
          injection he with q1 q2 q3
          subst q1
          subst q3
          have hlw : (k : Int) < (T.length : Int) := by omega
          obtain ⟨hc, hz⟩ := own_at hor (k : Int) (by omega) (by omega)
          simp only [Int.toNat_natCast] at hc hz
          go_wp2
          go_roundw
          case rel =>
            have h2 := (own_store hor (k : Int) ((rd ys k + 1) % 256)).1
            simp only [Int.toNat_natCast] at h2
            exact ⟨k + 1, _, by omega, by go_num, by rw [List.length_set]; exact hys, h2, hcr.setCell (p := ⟨g, k, none⟩) (.inl hgb) _⟩
          case measure => simp [intOf]; omega
        · obtain rfl : k = T.length := by omega
          have hw4 := (hw3.step (w1 := wr) (fun j hj hlt => hcr.block j hlt (fun e => by have := (hok j hj).2; omega))).step (w1 := wr.drew) (fun _ _ _ => rfl)
          have hR4 := Kd.R_step (w1 := wr.drew) (Kd.R_step hRb3 (w1 := wr) (fun j hj hlt => hcr.block j hlt (fun e => by omega))) (fun _ _ _ => rfl)
          obtain ⟨A6, c6, he6, _, hK4⟩ := Kd.R_reads hR4
          injection he6 with q1 q2 q3
          subst q1
          subst q3
          have hBq : Below w.heap.size w wr.drew := below_drew (hBw3.trans (hcr.below_ (B := w.heap.size) hBw3.size (fun j hj => by omega)))
          clear hor hcr hw3 hRb3 hR4
          go_wp2_with fail
          refine wp_region_plan [] (.take 0 (.take 3 (.take 4 (.run 1 (.take 2 (.take 5 (.take 6 .done))))))) (fun w' => KB.C w' A T.length T) (by kernel_rfl) (by kernel_rfl) (fun c a d v w h => by cases d <;> exact h) hK4 ?_
          iterate 3 (apply plan_take rfl rfl; (case hy => (intro w' hS; have hcv := conv_str (c := c) hS; clear hS; go_simp; try exact rfl)); go_simp)
          refine plan_run_on rfl rfl (fun K hK => ?_)
          go_simp
          refine (wbytes_any hw4 (by omega)).mono ?_
          rintro e w5 ⟨A5, c5, rfl, hR5, hB5⟩
          have hBq5 : Below w.heap.size w w5 := hBq.trans (hB5.mono hBq.size)
          refine hK (fun w' => KB.C w' A T.length T ∧ KB.C w' A5 T.length T) _ _ (fun _ h => h.1) ⟨Kd.C_below hK4 hB5, Kd.F_now (R_RB hR5).2⟩ ?_
          clear hK K
          apply plan_take rfl rfl
          case hy =>
            rintro w' ⟨_, hS⟩
            have hcv := conv_str (c := c5) hS
            clear hS
            go_simp
            try exact rfl
          go_simp
          iterate 2 (apply plan_take rfl rfl; (case hy => (intro w' hS; clear hS; go_simp; try exact rfl)); go_simp)
          refine plan_done ?_
          have HB := hid hBq5
          clear hBq5 hB5 hR5 hK4 hw4 hBq
          go_wp2
          go_ret
          exact ⟨by simp, HB.out⟩
end Go.Proofs.Ytiecljhgpbifjaa
