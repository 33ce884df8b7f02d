/- The program's reader: what Raw, Ints and Texts hand to guarded. -/
import Derived.Test.YtiecljhgpbifjaaWireM
set_option linter.unusedVariables false
set_option linter.unusedSimpArgs false
namespace Go.Proofs.Ytiecljhgpbifjaa
open Go.RowKit Go.Proofs.YtiecljhgpbifjaaW.PrintWords

def oRaw (most : Int) (b : List Int) : Out (List Int) := match oCount most b with
  | .ok (n, r) => oNext n.toNat r
  | .error e => .error e
theorem errs_raw (most : Int) (b : List Int) : Errs (oRaw most b) := by
  intro x h
  unfold oRaw at h
  split at h
  · unfold oNext at h
    split at h
    · cases h
    · injection h with h; omega
  · rename_i e he
    injection h with h
    exact h ▸ errs_count most b e he
/-- A row of bytes of one's own, beyond B. -/
def RawQ (B : Nat) (v : List Int) (w : World) (u : Value) : Prop := ∃ A c, u = .slice A v.length c ∧ KB.R 5 w B (fun k => B ≤ k) (.slice A v.length c) v
/-- A variable that a closure has captured: it holds a number. -/
structure HeldI (w : World) (p mb : Nat) (x : Int) : Prop where
  cell : w.cell? ⟨mb, 0, none⟩ = some (.int .i64 x)
  ne : mb ≠ p
theorem HeldI.chg {w w1 : World} {p mb : Nat} {x : Int} (h : HeldI w p mb x) (c : Chg (fun k => k = p) w w1) : HeldI w1 p mb x := ⟨c.cell_ h.cell h.ne, h.ne⟩
set_option maxRecDepth 100000 in
theorem raw_in {w : World} {ok : Nat → Prop} {p rb mb B : Nat} {b : List Int} {most : Int} (h : PRd w ok p b 0) (hr : Held w p rb) (hm : HeldI w p mb most) (hB : B ≤ w.heap.size) (hp : p < B) :
  Calls Try.prog 77 #[.pointer (some ⟨rb, 0, none⟩), .pointer (some ⟨mb, 0, none⟩)] w (Ends ok p w (oRaw most b) (RawQ B)) := by
  have hrc := hr.cell
  have hmc := hm.cell
  have ho : oRaw most b = match oCount most b with | .ok (n, r) => oNext n.toNat r | .error e => .error e := rfl
  generalize oRaw most b = o at ho
  have HO := hid ho
  clear ho
  go_enter Try.func77, Try.ntmps77
  go_wp2_with fail
  refine wp_region_plan [] (.take 0 (.take 1 (.take 2 (.run 3 (.run 4 (.run 5 (.take 6 .done))))))) (fun w' => w'.cell? ⟨rb, 0, none⟩ = some (.pointer (some ⟨p, 0, none⟩)) ∧ w'.cell? ⟨mb, 0, none⟩ = some (.int .i64 most)) (by kernel_rfl) (by kernel_rfl) (fun c a d v w h => by cases d <;> exact h) ⟨hrc, hmc⟩ ?_
  iterate 3 (apply plan_take rfl rfl; (case hy => (intro w' hS; obtain ⟨s0, s1⟩ := hS; go_simp; try exact rfl)); go_simp)
  refine plan_run_on rfl rfl (fun K hK => ?_)
  go_simp
  have hd : PRd w.drew ok p b 0 := h.step (fun _ _ _ => rfl)
  refine (count_in most hd).mono ?_
  intro e w1 he
  obtain ⟨c1, hh⟩ := he.both
  have c1' : Chg (fun k => k = p) w w1 := (Chg.refl _ w).drew.then_ c1 (fun _ h => .inl h)
  rcases hh with ⟨n, r, u, h1, rfl, ⟨rfl, hn0, hn1⟩, h2⟩ | ⟨x, b', h1, rfl, h2⟩
  · have ho := HO.out
    rw [h1] at ho
    dsimp only at ho
    clear HO h1 he
    obtain ⟨m, rfl⟩ := Int.eq_ofNat_of_zero_le hn0
    rw [Int.toNat_natCast] at ho
    have hr1 := (hr.chg c1').cell
    have hm1 := (hm.chg c1').cell
    refine hK _ _ _ (fun _ h => h) ⟨hr1, hm1⟩ ?_
    clear hK K
    by_cases hn : m ≤ r.length
    · have ho2 : o = .ok (r.take m, r.drop m) := by rw [ho]; unfold oNext; rw [if_pos hn]
      have hlm : (r.take m).length = m := by rw [List.length_take]; omega
      refine plan_run_on rfl rfl (fun K hK => ?_)
      go_simp
      refine (next_some (n := m) h2 hn).mono ?_
      rintro e w2 ⟨A, c, rfl, hrb, h3, hc, c2⟩
      have c2' := chg_p c1' c2
      refine hK _ _ _ (fun _ h => h) ⟨(hr.chg c2').cell, (hm.chg c2').cell⟩ ?_
      clear hK K
      refine plan_run_on rfl rfl (fun K hK => ?_)
      go_simp
      have hC := Kd.F_now hrb
      have hcl := clone_any (c := c) hC (by omega)
      rw [hlm] at hcl
      refine hcl.mono ?_
      rintro e w3 ⟨A3, c3, rfl, hR3, hB3⟩
      have c3' : Chg (fun k => k = p) w w3 := c2'.same hB3
      have h4 := h3.below hB3
      have hsz : B ≤ w2.heap.size := Nat.le_trans hB c2'.size
      have hfin : Ends ok p w o (RawQ B) (.returned (.slice A3 m c3)) w3 := Ends.good ho2 c3' ⟨A3, c3, by rw [hlm], by rw [hlm]; exact Kd.R_lower (Kd.R_mono hR3 (fun q hq => Nat.le_trans hsz hq)) hsz⟩ h4
      have HF := hid hfin
      clear hfin hR3
      refine hK _ _ _ (fun _ h => h) ⟨(hr.chg c3').cell, (hm.chg c3').cell⟩ ?_
      clear hK K
      apply plan_take rfl rfl
      case hy => (intro w' hS; clear hS; go_simp; try exact rfl)
      go_simp
      refine plan_done ?_
      go_wp2_with fail
      go_ret
      exact HF.out
    · have ho2 : o = .error 40 := by rw [ho]; unfold oNext; rw [if_neg hn]
      refine plan_run_on rfl rfl (fun K hK => ?_)
      go_simp
      refine (next_none (n := m) h2 (by omega)).mono ?_
      rintro e w2 ⟨rfl, rfl⟩
      exact ⟨rfl, Ends.bad (by first | exact ho2 | (unfold oNext; rw [if_neg hn])) c1' h2⟩
  · have ho := HO.out
    rw [h1] at ho
    exact ⟨rfl, Ends.bad ho c1' h2⟩

/-! ### As many as were told -/
def oTimes {α : Type} (f : List Int → Out α) : Nat → List Int → Out (List α)
  | 0, b => .ok ([], b)
  | k + 1, b => match oTimes f k b with
    | .error e => .error e
    | .ok (l, r) => match f r with
      | .error e => .error e
      | .ok (v, r') => .ok (l ++ [v], r')
theorem oTimes_err {α : Type} {f : List Int → Out α} {k n : Nat} {b : List Int} {e : Int} (h : oTimes f k b = .error e) (hk : k ≤ n) : oTimes f n b = .error e := by
  induction n with
  | zero => obtain rfl : k = 0 := by omega
            exact h
  | succ n ih =>
    rcases Nat.lt_or_ge n k with hl | hl
    · obtain rfl : k = n + 1 := by omega
      exact h
    · rw [oTimes, ih hl]
theorem oTimes_ok {α : Type} {f : List Int → Out α} {k : Nat} {b r r' : List Int} {l : List α} {v : α} (h : oTimes f k b = .ok (l, r)) (hv : f r = .ok (v, r')) : oTimes f (k + 1) b = .ok (l ++ [v], r') := by rw [oTimes, h]; dsimp only; rw [hv]
theorem oTimes_stop {α : Type} {f : List Int → Out α} {k : Nat} {b r : List Int} {l : List α} {e : Int} (h : oTimes f k b = .ok (l, r)) (hv : f r = .error e) : oTimes f (k + 1) b = .error e := by rw [oTimes, h]; dsimp only; rw [hv]
theorem oTimes_len {α : Type} {f : List Int → Out α} : ∀ {k : Nat} {b r : List Int} {l : List α}, oTimes f k b = .ok (l, r) → l.length = k := by
  intro k
  induction k with
  | zero => intro b r l h; rw [oTimes] at h; injection h with h; injection h with h1 h2; subst h1; rfl
  | succ k ih =>
    intro b r l h
    rw [oTimes] at h
    split at h
    · cases h
    · rename_i l0 r0 h0
      split at h
      · cases h
      · injection h with h
        injection h with h1 h2
        subst h1
        rw [List.length_append, ih h0]
        rfl
theorem errs_times {α : Type} {f : List Int → Out α} (hf : ∀ b, Errs (f b)) (n : Nat) (b : List Int) : Errs (oTimes f n b) := by
  induction n with
  | zero => intro x h; rw [oTimes] at h; cases h
  | succ n ih =>
    intro x h
    rw [oTimes] at h
    split at h
    · rename_i e he
      injection h with h
      exact h ▸ ih e he
    · split at h
      · rename_i e he
        injection h with h
        exact h ▸ hf _ e he
      · cases h
def oInts (most : Int) (b : List Int) : Out (List Int) := match oCount most b with
  | .ok (n, r) => oTimes oInt n.toNat r
  | .error e => .error e
theorem errs_ints (most : Int) (b : List Int) : Errs (oInts most b) := by
  intro x h
  unfold oInts at h
  split at h
  · exact errs_times errs_int _ _ x h
  · rename_i e he
    injection h with h
    exact h ▸ errs_count most b e he
/-- A row of numbers of one's own, beyond B. -/
def IntsQ (B : Nat) (v : List Int) (w : World) (u : Value) : Prop := ∃ A c, u = .slice A v.length c ∧ (Kd.int .i64).R 3 w B (fun k => B ≤ k) (.slice A v.length c) v
theorem info_int : (Try.prog.info? 3).map (fun i => (i.zero, i.size, i.bytes)) = some (some (.int .i64 0), 1, 8) := by kernel_rfl
set_option maxRecDepth 100000 in
theorem ints_in {w : World} {ok : Nat → Prop} {p rb mb B : Nat} {b : List Int} {most : Int} (h : PRd w ok p b 0) (hr : Held w p rb) (hm : HeldI w p mb most) (hB : B ≤ w.heap.size) (hok : ∀ k, ok k → k < B) :
  Calls Try.prog 81 #[.pointer (some ⟨rb, 0, none⟩), .pointer (some ⟨mb, 0, none⟩)] w (Ends ok p w (oInts most b) (IntsQ B)) := by
  have hrc := hr.cell
  have hmc := hm.cell
  have ho : oInts most b = match oCount most b with | .ok (n, r) => oTimes oInt n.toNat r | .error e => .error e := rfl
  generalize oInts most b = o at ho
  have HO := hid ho
  clear ho
  go_enter Try.func81, Try.ntmps81
  go_wp2_with fail
  refine (count_in most h).mono ?_
  intro e w1 he
  obtain ⟨c1, ⟨n, r, u, h1, rfl, ⟨rfl, hn0, hn1⟩, h2⟩ | ⟨x, b', h1, rfl, h2⟩⟩ := he.both
  · have ho := HO.out
    rw [h1] at ho
    dsimp only at ho
    clear HO h1 he
    obtain ⟨m, rfl⟩ := Int.eq_ofNat_of_zero_le hn0
    rw [Int.toNat_natCast] at ho
    have HO := hid ho
    clear ho
    go_wp2_with fail
    go_loopw [3, 7] (fun v i wr => ∃ (k : Nat) (l r' : List Int), k ≤ m ∧ i = .int .i64 k ∧ oTimes oInt k r = .ok (l, r') ∧ (Kd.int .i64).R 3 wr w.heap.size (fun k => w.heap.size ≤ k) v l ∧ PRd wr ok p r' 0 ∧ Chg (fun k => k = p) w wr) (fun _ i _ => m - (intOf i).toNat)
    case atStart => exact ⟨0, [], r, Nat.zero_le _, rfl, rfl, Kd.R_nil _ _ _ _ _, h2, c1⟩
    case round =>
      obtain ⟨k, l, r', hk, rfl, hl, hR, h3, c3⟩ := hrel
      have hll := oTimes_len hl
      by_cases hlt : k < m
      · have hlw : (k : Int) < (m : Int) := by omega
        have hr3 := (hr.chg c3).cell
        go_wp2_with fail
        refine (int_in h3).mono ?_
        intro e w4 he
        obtain ⟨c4, ⟨v, r4, u, h1, rfl, ⟨rfl, hv0, hv1⟩, h4⟩ | ⟨x, b', h1, rfl, h4⟩⟩ := he.both
        · clear he
          have hl4 := oTimes_ok hl h1
          have c5 := chg_p c3 c4
          have hR4 := Kd.R_step hR (w1 := w4) (fun k hk hlt => c4.block k hlt (fun e => by have := hok p h.okp; omega))
          have hsz : w.heap.size ≤ w4.heap.size := c5.size
          go_wp2_with (at_builtin; refine print_append_num (w0 := w4) w.heap.size rfl (.tmp 9) (.tmp 12) 29 3 .i64 8 rfl Try.underlying29 info_int (by decide) _ l v rfl rfl ?HO ?HB ?hb ?hl ?_)
          case HO => exact R_own1 hR4
          case HB => exact Below.refl _ _
          case hb => omega
          case hl => omega
          intro v1 w5 ho hB1 hg hat
          have ho' : w5.ownsRow w.heap.size 3 1 v1 (l ++ [v]).length (nums .i64 (l ++ [v])) := by rw [List.length_append, hll]; exact ho
          have hR5 : (Kd.int .i64).R 3 w5 w.heap.size (fun k => w.heap.size ≤ k) v1 (l ++ [v]) := Rown ho' (fun q hq => own_base ho' q hq)
          have c6 : Chg (fun k => k = p) w w5 := c5.grown hg (fun k hk => .inr (own_base (R_own1 hR4) k hk))
          have h5 : PRd w5 ok p r4 0 := h4.step (fun k hk _ => hB1.block k (Nat.lt_of_lt_of_le (hok k hk) hB))
          clear ho ho' hg hat hB1
          go_wp2
          go_roundw
          case rel => exact ⟨k + 1, _, _, by omega, by go_num, hl4, hR5, h5, c6⟩
          case measure => simp [intOf]; omega
        · clear he
          have hl4 := oTimes_err (oTimes_stop hl h1) hlt
          exact ⟨rfl, Ends.bad (HO.out.trans hl4) (chg_p c3 c4) h4⟩
      · obtain rfl : k = m := by omega
        have ho2 := HO.out.trans hl
        obtain ⟨A, c, rfl⟩ := Kd.R_slice hR
        have hfin : Ends ok p w o (IntsQ B) (.returned (.slice A l.length c)) wr := Ends.good ho2 c3 ⟨A, c, rfl, Kd.R_lower (Kd.R_mono hR (fun q hq => Nat.le_trans hB hq)) hB⟩ h3
        have HF := hid hfin
        clear hfin ho2
        go_wp2
        go_ret
        exact HF.out
  · have ho := HO.out
    rw [h1] at ho
    exact ⟨rfl, Ends.bad ho c1 h2⟩

def oText (long : Int) (b : List Int) : Out ByteArray := match oRaw long b with
  | .ok (v, r) => .ok (strOfNums v, r)
  | .error e => .error e
theorem errs_text (long : Int) (b : List Int) : Errs (oText long b) := by
  intro x h
  unfold oText at h
  split at h
  · cases h
  · rename_i e he
    injection h with h
    exact h ▸ errs_raw long b e he
def oTexts (most long : Int) (b : List Int) : Out (List ByteArray) := match oCount most b with
  | .ok (n, r) => oTimes (oText long) n.toNat r
  | .error e => .error e
theorem errs_texts (most long : Int) (b : List Int) : Errs (oTexts most long b) := by
  intro x h
  unfold oTexts at h
  split at h
  · exact errs_times (errs_text long) _ _ x h
  · rename_i e he
    injection h with h
    exact h ▸ errs_count most b e he
/-- A row of strings of one's own, beyond B. -/
def TextsQ (B : Nat) (v : List ByteArray) (w : World) (u : Value) : Prop := ∃ A c, u = .slice A v.length c ∧ Kd.string.R 9 w B (fun k => B ≤ k) (.slice A v.length c) v
theorem info_str : (Try.prog.info? 9).map (fun i => (i.zero, i.size, i.bytes)) = some (some (.string ⟨#[]⟩), 1, 16) := by kernel_rfl
set_option maxRecDepth 100000 in
theorem texts_in {w : World} {ok : Nat → Prop} {p rb mb lb B : Nat} {b : List Int} {most long : Int} (h : PRd w ok p b 0) (hr : Held w p rb) (hm : HeldI w p mb most) (hlg : HeldI w p lb long) (hB : B ≤ w.heap.size) (hok : ∀ k, ok k → k < B) :
  Calls Try.prog 83 #[.pointer (some ⟨rb, 0, none⟩), .pointer (some ⟨mb, 0, none⟩), .pointer (some ⟨lb, 0, none⟩)] w (Ends ok p w (oTexts most long b) (TextsQ B)) := by
  have hrc := hr.cell
  have hmc := hm.cell
  have ho : oTexts most long b = match oCount most b with | .ok (n, r) => oTimes (oText long) n.toNat r | .error e => .error e := rfl
  generalize oTexts most long b = o at ho
  have HO := hid ho
  clear ho
  go_enter Try.func83, Try.ntmps83
  go_wp2_with fail
  refine (count_in most h).mono ?_
  intro e w1 he
  obtain ⟨c1, ⟨n, r, u, h1, rfl, ⟨rfl, hn0, hn1⟩, h2⟩ | ⟨x, b', h1, rfl, h2⟩⟩ := he.both
  · have ho := HO.out
    rw [h1] at ho
    dsimp only at ho
    clear HO h1 he
    obtain ⟨m, rfl⟩ := Int.eq_ofNat_of_zero_le hn0
    rw [Int.toNat_natCast] at ho
    have HO := hid ho
    clear ho
    go_wp2_with fail
    go_loopw [4, 8] (fun v i wr => ∃ (k : Nat) (l : List ByteArray) (r' : List Int), k ≤ m ∧ i = .int .i64 k ∧ oTimes (oText long) k r = .ok (l, r') ∧ Kd.string.R 9 wr w.heap.size (fun k => w.heap.size ≤ k) v l ∧ PRd wr ok p r' 0 ∧ Chg (fun k => k = p) w wr) (fun _ i _ => m - (intOf i).toNat)
    case atStart => exact ⟨0, [], r, Nat.zero_le _, rfl, rfl, Kd.R_nil _ _ _ _ _, h2, c1⟩
    case round =>
      obtain ⟨k, l, r', hk, rfl, hl, hR, h3, c3⟩ := hrel
      have hll := oTimes_len hl
      by_cases hlt : k < m
      · have hlw : (k : Int) < (m : Int) := by omega
        have hr3 := (hr.chg c3).cell
        have hg3 := (hlg.chg c3).cell
        go_wp2_with fail
        refine wp_region_plan [] (.take 0 (.take 1 (.take 2 (.take 3 (.run 4 (.run 5 (.take 6 (.run 7 (.run 8 (.take 9 .done)))))))))) (fun w' => w'.cell? ⟨rb, 0, none⟩ = some (.pointer (some ⟨p, 0, none⟩)) ∧ w'.cell? ⟨lb, 0, none⟩ = some (.int .i64 long)) (by kernel_rfl) (by kernel_rfl) (fun c a d v w h => by cases d <;> exact h) ⟨hr3, hg3⟩ ?_
        iterate 4 (apply plan_take rfl rfl; (case hy => (intro w' hS; obtain ⟨s0, s1⟩ := hS; go_simp; try exact rfl)); go_simp)
        refine plan_run_on rfl rfl (fun K hK => ?_)
        go_simp
        have hd : PRd wr.drew ok p r' 0 := h3.step (fun _ _ _ => rfl)
        refine (count_in long hd).mono ?_
        intro e w4 he
        obtain ⟨c4, hh⟩ := he.both
        clear he
        have c4' : Chg (fun k => k = p) w w4 := c3.drew.then_ c4 (fun _ h => .inl h)
        rcases hh with ⟨n, r4, u, h1, rfl, ⟨rfl, hq0, hq1⟩, h4⟩ | ⟨x, b', h1, rfl, h4⟩
        · obtain ⟨q, rfl⟩ := Int.eq_ofNat_of_zero_le hq0
          refine hK _ _ _ (fun _ h => h) ⟨(hr.chg c4').cell, (hlg.chg c4').cell⟩ ?_
          clear hK K
          have hraw : oRaw long r' = oNext q r4 := by unfold oRaw; rw [h1]; rfl
          by_cases hn : q ≤ r4.length
          · have ho2 : oText long r' = .ok (strOfNums (r4.take q), r4.drop q) := by unfold oText; rw [hraw]; unfold oNext; rw [if_pos hn]
            have hl4 := oTimes_ok hl ho2
            have hlm : (r4.take q).length = q := by rw [List.length_take]; omega
            refine plan_run_on rfl rfl (fun K hK => ?_)
            go_simp
            refine (next_some (n := q) h4 hn).mono ?_
            rintro e w5 ⟨A, c, rfl, hrb, h5, hc, c5⟩
            have c5' := chg_p c4' c5
            have hC := Kd.F_now hrb
            rw [hlm] at hC
            refine hK (fun w' => (w'.cell? ⟨rb, 0, none⟩ = some (.pointer (some ⟨p, 0, none⟩)) ∧ w'.cell? ⟨lb, 0, none⟩ = some (.int .i64 long)) ∧ KB.C w' A q (r4.take q)) _ _ (fun _ h => h.1) ⟨⟨(hr.chg c5').cell, (hlg.chg c5').cell⟩, hC⟩ ?_
            clear hK K
            apply plan_take rfl rfl
            case hy =>
              rintro w' ⟨_, hC'⟩
              have hcv := conv_str (c := c) hC'
              clear hC'
              go_simp
              try exact rfl
            go_simp
            refine plan_run_on rfl rfl (fun K hK => ?_)
            go_simp
            have hR5 := Kd.R_step hR (w1 := w5) (fun j hj hlt => ((Chg.refl (fun k => k = p) wr).drew.then_ (chg_p c4 c5) (fun _ h => .inl h)).block j hlt (fun e => by have := hok p h.okp; omega))
            have hsz5 := c5'.size
            have h5a : Chg (fun k => k = p) w (w5.alloc (.cells #[.string (strOfNums (r4.take q))] 9)) := c5'.alloc _
            have hCa : KB.C (w5.alloc (.cells #[.string (strOfNums (r4.take q))] 9)) A q (r4.take q) := Kd.C_below hC (below_alloc (Below.refl _ _) _)
            refine hK _ _ _ (fun _ h => h) ⟨⟨(hr.chg h5a).cell, (hlg.chg h5a).cell⟩, hCa⟩ ?_
            clear hK K
            refine plan_run rfl (fun K hK => ?_)
            refine Kd.R_append_step Kd.string (w0 := w5) w.heap.size rfl (.tmp 10) (.tmp 17) 30 9 (.string ⟨#[]⟩) 16 rfl Try.underlying30 info_str rfl (by decide) (by decide) u4 l (strOfNums (r4.take q)) [.string (strOfNums (r4.take q))]
              (fun q => w.heap.size ≤ q) (fun _ => False) rfl rfl rfl (fun _ h => h.elim) (fun q hq => by omega) hR5 (Below.refl _ _) hsz5 (by omega) ?_
            intro v6 w6 hR6 hB6 hg6 _
            have h6c : Chg (fun k => k = p) w w6 := c5'.grown hg6 (fun k hk => .inr (by
              obtain ⟨_, _, ho, _⟩ := hR5
              exact own_base ho k hk))
            have h6 : PRd w6 ok p (r4.drop q) 0 := h5.step (fun k hk _ => hB6.block k (Nat.lt_of_lt_of_le (hok k hk) hB))
            have hC6 : KB.C w6 A q (r4.take q) := by
              have := Kd.F_now (Kd.F_step hrb (W1 := w6) (fun k hk _ => hB6.block k (Nat.lt_of_lt_of_le (hok k hk.1) hB)))
              rwa [hlm] at this
            refine hK _ _ _ (fun _ h => h) ⟨⟨(hr.chg h6c).cell, (hlg.chg h6c).cell⟩, hC6⟩ ?_
            clear hK K
            go_simp
            apply plan_take rfl rfl
            case hy => (intro w' hS; clear hS; go_simp; try exact rfl)
            go_simp
            refine plan_done ?_
            clear hC6 hCa hC
            go_wp2
            go_roundw
            case rel => exact ⟨k + 1, _, _, by omega, by go_num, hl4, hR6, h6, h6c⟩
            case measure => simp [intOf]; omega
          · have ho2 : oText long r' = .error 40 := by unfold oText; rw [hraw]; unfold oNext; rw [if_neg hn]
            have hl4 := oTimes_err (oTimes_stop hl ho2) hlt
            refine plan_run_on rfl rfl (fun K hK => ?_)
            go_simp
            refine (next_none (n := q) h4 (by omega)).mono ?_
            rintro e w2 ⟨rfl, rfl⟩
            exact ⟨rfl, Ends.bad (HO.out.trans hl4) c4' h4⟩
        · have ho2 : oText long r' = .error x := by unfold oText oRaw; rw [h1]
          have hl4 := oTimes_err (oTimes_stop hl ho2) hlt
          exact ⟨rfl, Ends.bad (HO.out.trans hl4) c4' h4⟩
      · obtain rfl : k = m := by omega
        have ho2 := HO.out.trans hl
        obtain ⟨A, c, rfl⟩ := Kd.R_slice hR
        have hfin : Ends ok p w o (TextsQ B) (.returned (.slice A l.length c)) wr := Ends.good ho2 c3 ⟨A, c, rfl, Kd.R_lower (Kd.R_mono hR (fun q hq => Nat.le_trans hB hq)) hB⟩ h3
        have HF := hid hfin
        clear hfin ho2
        go_wp2
        go_ret
        exact HF.out
  · have ho := HO.out
    rw [h1] at ho
    exact ⟨rfl, Ends.bad ho c1 h2⟩
end Go.Proofs.Ytiecljhgpbifjaa
