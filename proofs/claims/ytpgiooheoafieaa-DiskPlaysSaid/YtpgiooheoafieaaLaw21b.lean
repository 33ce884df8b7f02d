/- Package foundrylaw21: laid. -/
import Derived.Test.YtpgiooheoafieaaLaw21a
set_option linter.unusedVariables false
set_option linter.unusedSimpArgs false
namespace Go.Proofs.Ytpgiooheoafieaa
open Go.RowKit Go.Proofs.YtpgiooheoafieaaW.PrintWords

/-- What writes lay onto bytes. -/
def lay (b : List Int) (l : List (Int × List Int)) : List Int := l.foldl (fun b x => splice b (x.1.toNat * 64) x.2) b
def Fit (n : Nat) (l : List (Int × List Int)) : Prop := ∀ x ∈ l, x.2.length = 64 ∧ 0 ≤ x.1 ∧ x.1 < n
theorem lay_len {l : List (Int × List Int)} {n : Nat} (h : Fit n l) : ∀ {b : List Int}, b.length = 64 * n → (lay b l).length = 64 * n := by
  induction l with
  | nil => intro b hb; exact hb
  | cons x l ih =>
    intro b hb
    have hx := h x (by simp)
    refine ih (fun y hy => h y (by simp [hy])) ?_
    rw [length_splice _ _ _ (by rw [hx.1]; omega)]
    exact hb
theorem elem2 {w : World} {e base : Nat} {ok : Nat → Prop} {g n c : Nat} {l : List (Int × List Int)} (h : KW.R e w base ok (.slice (some ⟨g, 0, none⟩) n c) l) {i : Nat} (hi : i < l.length) :
    ∃ A1 c1, w.cell? ⟨g, i * 2, none⟩ = some (.int .i64 l[i].1) ∧ w.cell? ⟨g, i * 2 + 1, none⟩ = some (.slice A1 l[i].2.length c1) ∧ KB.C w A1 l[i].2.length l[i].2 := by
  obtain ⟨A', c', he, _, hC⟩ := Kd.R_reads h
  injection he with he1 he2 he3
  subst he1
  obtain ⟨ad, cs, hA, hcs, hK, hcell⟩ := Kd.C_get hC (0, []) (i : Int) (by omega) (by omega)
  injection hA with hA
  subst hA
  simp only [Int.toNat_natCast] at hK hcell
  have hget : l.getD i (0, []) = l[i] := by simp [List.getD_eq_getElem?_getD, hi]
  rw [hget] at hK
  obtain ⟨c0, c1, rfl, h0, A1, cap1, h1, hle, hC1⟩ := hK
  obtain rfl : c0 = [.int .i64 l[i].1] := h0
  subst h1
  refine ⟨A1, cap1, ?_, ?_, hC1⟩
  · have := hcell 0 _ rfl
    rwa [add_plain] at this
  · have := hcell 1 _ rfl
    rwa [add_plain] at this
theorem splice_step {b xs : List Int} {off k : Nat} (hk : k < xs.length) (hl : off + xs.length ≤ b.length) : (splice b off (xs.take k)).set (off + k) xs[k] = splice b off (xs.take (k + 1)) := by
  unfold splice
  have h1 : (b.take off).length = off := by rw [List.length_take]; omega
  have h2 : (xs.take k).length = k := by rw [List.length_take]; omega
  have h3 : (xs.take (k + 1)).length = k + 1 := by rw [List.length_take]; omega
  rw [List.set_append_right _ _ (by omega), h1, Nat.add_sub_cancel_left, List.set_append_right _ _ (by omega), h2, Nat.sub_self, h3, List.take_succ_eq_append_getElem hk]
  have h4 : off + k < b.length := by omega
  rw [List.drop_eq_getElem_cons h4, List.set_cons_zero, List.append_assoc]
  rfl
theorem splice_nil (b : List Int) (off : Nat) : splice b off [] = b := by simp [splice]
set_option maxRecDepth 100000 in
set_option maxHeartbeats 2000000 in
theorem laid_some {w : World} {base : Nat} {ok : Nat → Prop} {g c : Nat} {l : List (Int × List Int)} (n : Int) (h : KW.R 92 w base ok (.slice (some ⟨g, 0, none⟩) l.length c) l) (hl : l.length ≤ 140737488351232) (hf : Fit 16 l) (hn : n ≤ 9223372036854775807) :
  Calls Try.prog 23 #[.slice (some ⟨g, 0, none⟩) l.length c, .int .i64 n] w fun e w' => ∃ c', e = .returned (.slice (some ⟨w.heap.size, 0, none⟩) 1024 c') ∧ KB.R 5 w' w.heap.size (fun q => w.heap.size ≤ q) (.slice (some ⟨w.heap.size, 0, none⟩) 1024 c') (lay (List.replicate 1024 0) (l.take n.toNat)) ∧ Below w.heap.size w w' := by
  have hmk : ∀ W : World, (Instr.makeSlice 29 (.int .i64 1024) (.int .i64 1024)).run Try.prog W = .ok (.slice (some ⟨W.heap.size, 0, none⟩) 1024 1024) (W.alloc (.cells (madeCells #[.int .u8 0] 1024) 5)) := make_bytes 1024 (by omega)
  have hgl : g < w.heap.size := by
    obtain ⟨_, _, ho, _⟩ := h
    exact own_lt ho g rfl
  go_enter Try.func23, Try.ntmps23
  go_wp2
  go_loopw [6] (fun i wr => ∃ k : Nat, k ≤ l.length ∧ (k ≤ n.toNat) ∧ i = .int .i64 k ∧ wr.ownsRow w.heap.size 5 1 (.slice (some ⟨w.heap.size, 0, none⟩) 1024 1024) 1024 (nums .u8 (lay (List.replicate 1024 0) (l.take k))) ∧ Below w.heap.size w wr) (fun i _ => l.length - (intOf i).toNat)
  case atStart =>
    refine ⟨0, by omega, by omega, rfl, ?_, below_alloc (Below.refl _ _) _⟩
    exact own_made w w.heap.size 5 .u8 1024 (Nat.le_refl _) (by omega)
  case round =>
    obtain ⟨k, hk, hkn, rfl, ho, hB⟩ := hrel
    have hb9 : (l.length : Int) ≤ 140737488351232 := by omega
    by_cases hin : k < l.length ∧ k < n.toNat
    · obtain ⟨hkl, hkn2⟩ := hin
      have hkn3 : (k : Int) < n := by omega
      obtain ⟨A1, c1, e0, e1, hC⟩ := elem2 h hkl
      have hfk := hf l[k] (List.getElem_mem hkl)
      obtain ⟨at_, hat⟩ := Int.eq_ofNat_of_zero_le hfk.2.1
      rw [hat] at e0 hfk
      have hlx : l[k].2.length = 64 := hfk.1
      have hat2 : at_ < 16 := by omega
      have hkl' : (k : Int) < (l.length : Int) := by omega
      have HL := hid hat
      have HX := hid hlx
      rw [hlx] at e1
      obtain ⟨cur, hcur⟩ : ∃ cur, cur = lay (List.replicate 1024 0) (l.take k) := ⟨_, rfl⟩
      rw [← hcur] at ho
      have HC := hid hcur
      have hclen : cur.length = 1024 := by have := ho.1; rw [nums_length] at this; omega
      have HCL := hid hclen
      clear hat hlx hcur hclen hfk
      obtain ⟨wo, hwo⟩ : ∃ wo : World, wo = wr := ⟨_, rfl⟩
      subst hwo
      go_wp2
      go_loopw [7] (fun j wi => ∃ q : Nat, q ≤ 64 ∧ j = .int .i64 q ∧ wi.ownsRow w.heap.size 5 1 (.slice (some ⟨w.heap.size, 0, none⟩) 1024 1024) 1024 (nums .u8 (splice cur (at_ * 64) (l[k].2.take q))) ∧ Below w.heap.size w wi) (fun j _ => 64 - (intOf j).toNat)
      case atStart => exact ⟨0, by omega, rfl, by rw [List.take_zero, splice_nil]; exact ho, hB⟩
      case round =>
        obtain ⟨q, hq, rfl, ho2, hB2⟩ := hrel
        have f0 := pw_cell_below hB2 e0
        have f1 := pw_cell_below hB2 e1
        by_cases hq64 : q < 64
        · obtain ⟨ad1, rfl, hbc⟩ := (C_int hC).at_ (q : Int) (by omega) (by rw [HX.out]; omega)
          simp only [Int.toNat_natCast] at hbc
          have fb := pw_cell_below hB2 hbc
          obtain ⟨hc, hz⟩ := own_at ho2 ((at_ * 64 + q : Nat) : Int) (by omega) (by omega)
          simp only [Int.toNat_natCast] at hc hz
          obtain ⟨ho3, hg3⟩ := own_store ho2 ((at_ * 64 + q : Nat) : Int) (rd l[k].2 q)
          simp only [Int.toNat_natCast] at ho3 hg3
          have hrd : rd l[k].2 q = l[k].2[q]'(by rw [HX.out]; exact hq64) := by simp [rd, List.getD_eq_getElem?_getD, HX.out, hq64]
          have hset : (splice cur (at_ * 64) (l[k].2.take q)).set (at_ * 64 + q) (rd l[k].2 q) = splice cur (at_ * 64) (l[k].2.take (q + 1)) := by
            rw [hrd]; exact splice_step (by rw [HX.out]; exact hq64) (by rw [HX.out, HCL.out]; omega)
          rw [hset] at ho3
          have hB3 := hB2.setCell (p := ⟨w.heap.size, at_ * 64 + q, none⟩) (Nat.le_refl _) (.int .u8 (rd l[k].2 q))
          clear hrd hset ho2 hbc e0 e1 hg3
          go_wp2_with fail
          refine wp_region_plan [17, 18] (.take 0 (.take 1 (.take 2 (.take 3 (.take 4 (.take 5 (.take 6 (.take 7 (.take 8 (.take 9 (.take 10 (.take 11 (.take 12 (.take 13 (.take 14 (.take 15 (.take 16 (.tail 17 (.tail 18 .done))))))))))))))))))) (fun w' => w'.cell? ⟨g, k * 2, none⟩ = some (.int .i64 at_) ∧ w'.cell? ⟨g, k * 2 + 1, none⟩ = some (.slice (some ad1) 64 c1) ∧ w'.cell? (ad1.add q) = some (.int .u8 (rd l[k].2 q))) (by kernel_rfl) (by kernel_rfl) (fun c a d v w h => by cases d <;> exact h) ⟨f0, f1, fb⟩ ?_
          have hw1 : IntKind.i64.wrap ((at_ : Int) * 64) = (at_ : Int) * 64 := IntWalk.i64_in _ (by omega)
          have hw2 : IntKind.i64.wrap ((at_ : Int) * 64 + (q : Int)) = (at_ : Int) * 64 + (q : Int) := IntWalk.i64_in _ (by omega)
          have hw3 : ((at_ : Int) * 64 + (q : Int)).toNat = at_ * 64 + q := by omega
          have hw4 : 0 ≤ (at_ : Int) * 64 + (q : Int) := by omega
          have hw5 : (at_ : Int) * 64 + (q : Int) < 1024 := by omega
          iterate 17 (apply plan_take rfl rfl; (case hy => (intro w' hS; obtain ⟨s0, s1, s2⟩ := hS; go_simp; try exact rfl)); go_simp)
          refine plan_tail rfl (fun K hK => ?_)
          go_simp
          refine hK _ _ ?_
          clear hK K
          refine plan_tail rfl (fun K hK => ?_)
          go_simp
          refine hK _ _ (plan_done ?_)
          clear hK K hw1 hw2 hw3 hw4 hw5
          go_wp2
          go_roundw
          case rel => exact ⟨q + 1, by omega, by go_num, ho3, hB3.drew⟩
          case measure => simp [intOf]; omega
        · obtain rfl : q = 64 := by omega
          rw [List.take_of_length_le (by rw [HX.out]; omega)] at ho2
          have hnext : splice cur (at_ * 64) l[k].2 = lay (List.replicate 1024 0) (l.take (k + 1)) := by
            rw [List.take_succ_eq_append_getElem hkl, lay, List.foldl_append, HC.out, lay]
            simp only [List.foldl_cons, List.foldl_nil, HL.out, Int.toNat_natCast]
          rw [hnext] at ho2
          clear hnext e0 e1
          go_wp2
          go_roundw
          case rel => exact ⟨k + 1, by omega, by omega, by go_num, ho2, hB2⟩
          case measure => simp [intOf]; omega
    · have hlast : lay (List.replicate 1024 0) (l.take k) = lay (List.replicate 1024 0) (l.take n.toNat) := by
        congr 1
        rcases Nat.lt_or_ge k l.length with h1 | h1
        · have : k = n.toNat := by omega
          rw [this]
        · rw [List.take_of_length_le h1, List.take_of_length_le (by omega)]
      rw [hlast] at ho
      have hlay : (lay (List.replicate 1024 0) (l.take n.toNat)).length = 1024 := by have := ho.1; rw [nums_length] at this; omega
      have hR : KB.R 5 wr w.heap.size (fun q => w.heap.size ≤ q) (.slice (some ⟨w.heap.size, 0, none⟩) 1024 1024) (lay (List.replicate 1024 0) (l.take n.toNat)) := Rown (by rw [hlay]; exact ho) (fun q hq => by rw [← ob_eq hq]; omega)
      clear ho hlast hlay
      rcases Nat.lt_or_ge k l.length with h1 | h1
      · have h2 : ¬ (k : Int) < n := by omega
        clear hin
        go_wp2
        go_ret
        exact ⟨_, rfl, hR, hB⟩
      · have h2 : ¬ (k : Int) < (l.length : Int) := by omega
        clear hin
        go_wp2
        go_ret
        exact ⟨_, rfl, hR, hB⟩
end Go.Proofs.Ytpgiooheoafieaa
