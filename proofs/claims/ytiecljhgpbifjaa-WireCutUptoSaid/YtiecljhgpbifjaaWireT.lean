/- The document's reader (foundryref03.Reader): what its memory says; Fail, take, Left, Done. -/
import Derived.Test.YtiecljhgpbifjaaWireV
set_option linter.unusedVariables false
set_option linter.unusedSimpArgs false
namespace Go.Proofs.Ytiecljhgpbifjaa
open Go.RowKit Go.Proofs.YtiecljhgpbifjaaW.PrintWords

/-- The document's reader: q its block; its bytes B, the place at, the error. -/
structure PFb (w : World) (ok : Nat → Prop) (q : Nat) (B : List Int) (at_ : Nat) (e : Int) : Prop where
  okp : ok q
  bytes : Bytes B
  le : at_ ≤ B.length
  short : B.length ≤ 140737488355328
  cells : ∃ A c, w.heap[q]? = some (.cells #[.slice A B.length c, .int .i64 at_, .int .i64 e] 46 (0, 0)) ∧ RB w (fun k => ok k ∧ k ≠ q) A B ∧ B.length ≤ c
def PFt (w : World) (ok : Nat → Prop) (q : Nat) (s : St) : Prop := ∃ B at_, PFb w ok q B at_ s.e ∧ (s.e = 0 → B.drop at_ = s.b)
theorem PFb.step {w w1 : World} {ok : Nat → Prop} {q : Nat} {B : List Int} {at_ : Nat} {e : Int} (h : PFb w ok q B at_ e) (hm : ∀ k, ok k → k < w.heap.size → w1.heap[k]? = w.heap[k]?) : PFb w1 ok q B at_ e := by
  obtain ⟨hp, hB, hl, hs, A, c, hb, hr, h1⟩ := h
  exact ⟨hp, hB, hl, hs, A, c, (hm q hp (blk_lt hb)).trans hb, Kd.F_step hr (fun k hk => hm k hk.1), h1⟩
theorem PFt.step {w w1 : World} {ok : Nat → Prop} {q : Nat} {s : St} (h : PFt w ok q s) (hm : ∀ k, ok k → k < w.heap.size → w1.heap[k]? = w.heap[k]?) : PFt w1 ok q s := by
  obtain ⟨B, at_, h1, h2⟩ := h; exact ⟨B, at_, h1.step hm, h2⟩
theorem PFt.below {w w1 : World} {ok : Nat → Prop} {q : Nat} {s : St} (h : PFt w ok q s) (hm : Below w.heap.size w w1) : PFt w1 ok q s := h.step (fun k _ hk => hm.block k hk)
theorem PFt.irr {w : World} {ok : Nat → Prop} {q : Nat} {s s' : St} (h : PFt w ok q s) (he : s'.e = s.e) (hb : s.e = 0 → s'.b = s.b) : PFt w ok q s' := by
  obtain ⟨B, at_, h1, h2⟩ := h
  exact ⟨B, at_, he ▸ h1, fun h0 => by rw [h2 (he ▸ h0), hb (he ▸ h0)]⟩
theorem PFb.putE {w : World} {ok : Nat → Prop} {q : Nat} {B : List Int} {at_ : Nat} {e : Int} (h : PFb w ok q B at_ e) (x : Int) : PFb (w.setCell ⟨q, 2, none⟩ (.int .i64 x)) ok q B at_ x := by
  obtain ⟨hp, hB, hl, hs, A, c, hb, hr, h1⟩ := h
  exact ⟨hp, hB, hl, hs, A, c, heap_setCell_same w q 2 _ _ _ hb, Kd.F_step hr (fun k hk _ => Below.heap_setCell w ⟨q, 2, none⟩ _ k hk.2), h1⟩
theorem PFb.putAt {w : World} {ok : Nat → Prop} {q : Nat} {B : List Int} {at_ : Nat} {e : Int} (h : PFb w ok q B at_ e) (n : Nat) (hn : n ≤ B.length) : PFb (w.setCell ⟨q, 1, none⟩ (.int .i64 n)) ok q B n e := by
  obtain ⟨hp, hB, hl, hs, A, c, hb, hr, h1⟩ := h
  exact ⟨hp, hB, hn, hs, A, c, heap_setCell_same w q 1 _ _ _ hb, Kd.F_step hr (fun k hk _ => Below.heap_setCell w ⟨q, 1, none⟩ _ k hk.2), h1⟩
/-- What a method of the document's reader does with its state. -/
def TookF {α : Type} (ok : Nat → Prop) (q : Nat) (w : World) (s : St) (o : Out α) (z : α) (Q : α → World → Value → Prop) (e : Ending) (w' : World) : Prop :=
  ∃ u, e = .returned u ∧ Q (s.out o z) w' u ∧ PFt w' ok q (s.took o) ∧ Chg (fun k => k = q) w w'
theorem chg_q {q : Nat} {w : World} (j : Nat) (v : Value) : Chg (fun k => k = q) w (w.setCell ⟨q, j, none⟩ v) := Chg.setCell (S := fun k => k = q) (p := ⟨q, j, none⟩) (Chg.refl _ w) (.inl rfl) _
theorem ffail_any {w : World} {ok : Nat → Prop} {q : Nat} {s : St} (x : Int) (h : PFt w ok q s) :
  Calls Try.prog 61 #[.pointer (some ⟨q, 0, none⟩), .int .i64 x] w fun e w' => e = .returned (.tuple #[]) ∧ PFt w' ok q (s.fail x) ∧ Chg (fun k => k = q) w w' := by
  obtain ⟨B, at_, hp, hb⟩ := h
  have hp2 := hp.putE x
  obtain ⟨_, _, _, _, A, c, hblk, hr, h1⟩ := id hp
  have c2 := cell_of_row w q 2 _ _ _ hblk
  have cf := frozen_of_row w q 2 _ _ hblk
  simp at c2
  clear hblk
  by_cases he : s.e = 0
  · have hl : s.fail x = ⟨s.b, x⟩ := by simp only [St.fail, he, if_true]
    have hfin : PFt (w.setCell ⟨q, 2, none⟩ (.int .i64 x)) ok q (s.fail x) := by rw [hl]; exact ⟨B, at_, hp2, fun _ => hb he⟩
    rw [he] at c2
    clear hp hp2
    have HF := hid (And.intro hfin (chg_q (w := w) (q := q) 2 (.int .i64 x)))
    clear hfin
    go_enter Try.func61, Try.ntmps61
    go_wp2
    go_end0
    exact ⟨rfl, HF.out⟩
  · have hl : s.fail x = s := by simp only [St.fail, he, if_false]
    rw [hl]
    go_enter Try.func61, Try.ntmps61
    go_wp2
    go_end0
    exact ⟨rfl, ⟨B, at_, hp, hb⟩, Chg.refl _ _⟩
set_option maxRecDepth 100000 in
theorem take_any {w : World} {ok : Nat → Prop} {q : Nat} {s : St} (n : Nat) (hn8 : n ≤ 8) (h : PFt w ok q s) :
  Calls Try.prog 71 #[.pointer (some ⟨q, 0, none⟩), .int .i64 n] w (TookF ok q w s (oNum n s.b) 0 fun v _ u => u = .int .u64 v) := by
  obtain ⟨B, at_, hp, hb⟩ := h
  obtain ⟨_, hX, hle, hsh, A, c, hblk, hr, h1⟩ := id hp
  have c0 := cell_of_row w q 0 _ _ _ hblk
  have c1 := cell_of_row w q 1 _ _ _ hblk
  have c2 := cell_of_row w q 2 _ _ _ hblk
  have cf := frozen_of_row w q 1 _ _ hblk
  simp at c0 c1 c2
  by_cases he : s.e = 0
  · have hs := hb he
    have hpt : PFt w ok q s := ⟨B, at_, hp, hb⟩
    have hsl : s.b.length = B.length - at_ := by rw [← hs, List.length_drop]
    have hsub : IntKind.i64.wrap ((B.length : Int) - at_) = B.length - at_ := by rw [IntKind.wrap_i64]; omega
    rw [he] at c2
    by_cases hn : n ≤ s.b.length
    · have ho : s.out (oNum n s.b) 0 = val (s.b.take n) ∧ s.took (oNum n s.b) = ⟨s.b.drop n, 0⟩ := by
        unfold St.out St.took oNum
        simp only [he, if_true, hn]
        exact ⟨trivial, trivial⟩
      have hlt : ¬ ((B.length : Int) - at_ < (n : Int)) := by omega
      have HO := hid ho
      clear ho
      go_enter Try.func71, Try.ntmps71
      go_wp2_with fail
      refine wp_region_plan [] (.take 0 (.take 1 (.take 2 (.take 3 (.take 4 (.take 5 (.take 6 (.take 7 (.take 8 (.take 9 (.take 10 (.take 11 .done)))))))))))) (fun w' => w'.cell? ⟨q, 0, none⟩ = some (.slice A B.length c) ∧ w'.cell? ⟨q, 1, none⟩ = some (.int .i64 at_)) (by kernel_rfl) (by kernel_rfl) (fun c a d v w h => by cases d <;> exact h) ⟨c0, c1⟩ ?_
      iterate 12 (apply plan_take rfl rfl; (case hy => (intro w' hS; obtain ⟨s0, s1⟩ := hS; go_simp; try exact rfl)); go_simp)
      refine plan_done ?_
      go_wp2_with fail
      go_loopw [5, 6] (fun v i wr => Below w.heap.size w wr ∧ ∃ k : Nat, k ≤ n ∧ i = .int .i64 k ∧ v = .int .u64 (val (s.b.take k))) (fun _ i _ => n - (intOf i).toNat)
      case atStart => exact ⟨below_drew (Below.refl _ _), 0, Nat.zero_le _, rfl, by simp [val]⟩
      case round =>
        obtain ⟨hB, k, hk, rfl, rfl⟩ := hrel
        have hq := blk_lt hblk
        have d0 := (hB.cell (p := ⟨q, 0, none⟩) hq).trans c0
        have d1 := (hB.cell (p := ⟨q, 1, none⟩) hq).trans c1
        by_cases hlt2 : k < n
        · have hlw : (k : Int) < (n : Int) := by omega
          have hF := C_int (Kd.F_now (RB_below hr hB))
          obtain ⟨ad, rfl, hcell⟩ := hF.at_ ((at_ : Int) + k) (by omega) (by omega)
          have hkl : k < s.b.length := by omega
          have hrd : rd B ((at_ : Int) + k) = s.b[k] := by
            have e1 : ((at_ : Int) + k).toNat = at_ + k := by omega
            have e2 : s.b[k] = B[at_ + k]'(by omega) := by simp [← hs]
            rw [e2]
            simp [rd, e1, List.getD_eq_getElem?_getD, List.getElem?_eq_getElem (show at_ + k < B.length by omega)]
          have e1 : ((at_ : Int) + k).toNat = at_ + k := by omega
          rw [hrd, e1] at hcell
          have hin : 0 ≤ (at_ : Int) + k ∧ (at_ : Int) + k < B.length := by omega
          have hBs : Bytes s.b := hs ▸ hX.drop _
          have hx := hBs s.b[k] (List.getElem_mem hkl)
          have hv0 := val_lt (hBs.take k)
          have hv := val_le8 (hBs.take (k + 1)) (by rw [List.length_take]; omega)
          rw [← List.take_append_getElem hkl, val_snoc] at hv
          have hor := or_byte hv0.1 hv hx.1 hx.2
          have hw1 : IntKind.u64.wrap (val (s.b.take k) * 256) = val (s.b.take k) * 256 := by rw [wrap_u64_mod]; exact Int.emod_eq_of_lt (by omega) (by omega)
          have hw2 : IntKind.i64.wrap ((at_ : Int) + k) = at_ + k := by rw [IntKind.wrap_i64]; omega
          have hnext : val (s.b.take (k + 1)) = val (s.b.take k) * 256 + s.b[k] := by rw [← List.take_append_getElem hkl, val_snoc]
          have hwx : IntKind.u64.wrap s.b[k] = s.b[k] := by rw [wrap_u64_mod]; exact Int.emod_eq_of_lt (by omega) (by omega)
          generalize s.b[k] = x at hcell hx hv hor hnext hwx
          generalize val (s.b.take k) = y at hor hv hv0 hw1 hnext
          go_wp2_with fail
          refine wp_region_plan [] (.take 0 (.take 1 (.take 2 (.take 3 (.take 4 (.take 5 (.take 6 (.take 7 (.take 8 (.take 9 (.take 10 (.take 11 (.take 12 (.take 13 (.take 14 (.take 15 (.take 16 .done))))))))))))))))) (fun w' => w'.cell? ⟨q, 0, none⟩ = some (.slice (some ad) B.length c) ∧ w'.cell? ⟨q, 1, none⟩ = some (.int .i64 at_) ∧ w'.cell? (ad.add (at_ + k)) = some (.int .u8 x)) (by kernel_rfl) (by kernel_rfl) (fun c a d v w h => by cases d <;> exact h) ⟨d0, d1, hcell⟩ ?_
          iterate 17 (apply plan_take rfl rfl; (case hy => (intro w' hS; obtain ⟨s0, s1, s2⟩ := hS; go_simp; try exact rfl)); go_simp)
          refine plan_done ?_
          go_wp2
          go_roundw
          case rel => exact ⟨below_drew hB, k + 1, by omega, by go_num, by rw [hnext]⟩
          case measure => simp [intOf]; omega
        · obtain rfl : k = n := by omega
          have hpw : PFb wr ok q B at_ s.e := hp.step (fun j _ hj => hB.block j hj)
          have hfin : PFt (wr.setCell ⟨q, 1, none⟩ (.int .i64 ((at_ : Int) + k))) ok q ⟨s.b.drop k, 0⟩ := by
            have h2 := hpw.putAt (at_ + k) (by omega)
            rw [he] at h2
            refine ⟨B, at_ + k, by simpa using h2, fun _ => ?_⟩
            rw [← hs, List.drop_drop]
          have hch : Chg (fun k => k = q) w (wr.setCell ⟨q, 1, none⟩ (.int .i64 ((at_ : Int) + k))) := (Chg.of_below hB _).then_ (chg_q 1 _) (fun _ h => .inl h)
          have HF := hid (And.intro hfin hch)
          clear hfin hch hpw
          have hw2 : IntKind.i64.wrap ((at_ : Int) + k) = at_ + k := by rw [IntKind.wrap_i64]; omega
          have hf2 : wr.frozen? ⟨q, 1, none⟩ = false := frozen_of_row wr q 1 _ _ ((hB.block q hq).trans hblk)
          go_wp2
          go_ret
          exact ⟨_, rfl, by rw [HO.out.1]; rfl, by rw [HO.out.2]; exact HF.out.1, HF.out.2⟩
    · have ho : s.out (oNum n s.b) 0 = 0 ∧ s.took (oNum n s.b) = ⟨[], 40⟩ := by
        unfold St.out St.took oNum
        simp only [he, if_true, hn, if_false]
        exact ⟨trivial, trivial⟩
      have hlt : ((B.length : Int) - at_ < (n : Int)) := by omega
      have HO := hid ho
      have hpd : PFt w.drew ok q s := hpt.below (below_drew (Below.refl _ _))
      have hfl : s.fail 40 = ⟨s.b, 40⟩ := by simp only [St.fail, he, if_true]
      clear ho
      go_enter Try.func71, Try.ntmps71
      go_wp2_with fail
      refine wp_region_plan [] (.take 0 (.take 1 (.take 2 (.take 3 (.take 4 (.take 5 (.take 6 (.take 7 (.take 8 (.take 9 (.take 10 (.take 11 .done)))))))))))) (fun w' => w'.cell? ⟨q, 0, none⟩ = some (.slice A B.length c) ∧ w'.cell? ⟨q, 1, none⟩ = some (.int .i64 at_)) (by kernel_rfl) (by kernel_rfl) (fun c a d v w h => by cases d <;> exact h) ⟨c0, c1⟩ ?_
      iterate 12 (apply plan_take rfl rfl; (case hy => (intro w' hS; obtain ⟨s0, s1⟩ := hS; go_simp; try exact rfl)); go_simp)
      refine plan_done ?_
      go_wp2_with fail
      refine (ffail_any 40 hpd).mono ?_
      rintro e w2 ⟨rfl, h2, hc2⟩
      rw [hfl] at h2
      have h3 : PFt w2 ok q ⟨[], 40⟩ := h2.irr rfl (fun h0 => absurd h0 (by show ¬ (40 : Int) = 0; decide))
      have hc3 : Chg (fun k => k = q) w w2 := (Chg.refl _ w).drew.then_ hc2 (fun _ h => .inl h)
      have HF := hid (And.intro h3 hc3)
      clear h2 h3 hc2 hc3
      go_wp2
      go_ret
      exact ⟨_, rfl, by rw [HO.out.1]; rfl, by rw [HO.out.2]; exact HF.out.1, HF.out.2⟩
  · have ho : s.out (oNum n s.b) 0 = 0 ∧ s.took (oNum n s.b) = s := by
      unfold St.out St.took
      simp only [he, if_false]
      exact ⟨trivial, trivial⟩
    have HO := hid ho
    clear ho
    go_enter Try.func71, Try.ntmps71
    go_wp2
    go_ret
    exact ⟨_, rfl, by rw [HO.out.1]; rfl, by rw [HO.out.2]; exact ⟨B, at_, hp, hb⟩, Chg.refl _ _⟩
end Go.Proofs.Ytiecljhgpbifjaa
