/- Package foundrylaw21: DiskPlays, the walk. -/
import Derived.Test.YtpgiooheoafieaaDoesD
import Derived.Test.YtpgiooheoafieaaLaw21f
set_option linter.unusedVariables false
set_option linter.unusedSimpArgs false
namespace Go.Proofs.Ytpgiooheoafieaa
open Go.RowKit Go.Proofs.YtpgiooheoafieaaW.PrintWords

theorem Both.same {B : Nat} {w : World} {p q : Nat} {D : DM} (h : Both B w p q D) (hl : D.ws.length * 32 ≤ 140737488355328) :
    Calls Try.prog 29 #[.pointer (some ⟨p, 0, none⟩), .pointer (some ⟨q, 0, none⟩)] w fun e w' => e = .returned (.bool true) ∧ Below w.heap.size w w' := by
  obtain ⟨okd, okt, hd, ht, _⟩ := h
  exact same_true hd ht hl
set_option maxRecDepth 100000 in
set_option maxHeartbeats 4000000 in
theorem plays_out {w : World} {v : Value} {n : Int} (h : n < 16 ∨ 4096 < n) :
  Calls Try.prog 4 #[.int .i64 n, v] w fun e w' => e = .returned (.bool true) ∧ Below w.heap.size w w' := by
  have H := hid h
  clear h
  go_enter Try.func4, Try.ntmps4
  go_wp2_with fail
  refine (new_err n H.out).mono ?_
  rintro e w1 ⟨rfl, rfl⟩
  go_wp2_with fail
  refine (rnew_err n H.out).mono ?_
  rintro e w1 ⟨rfl, rfl⟩
  go_wp2_with fail
  refine alive21.mono ?_
  rintro e w3 ⟨rfl, b3⟩
  go_wp2
  go_ret
  exact ⟨rfl, b3⟩
set_option maxRecDepth 100000 in
set_option maxHeartbeats 4000000 in
theorem plays_in {w : World} {A : Option Addr} {c : Nat} {l : List OP} (n : Nat) (h1 : 16 ≤ n) (h2 : n ≤ 4096) (hC : KOp.C w A l.length l) (hok : ∀ o ∈ l, o.ok) :
  Calls Try.prog 4 #[.int .i64 n, .slice A l.length c] w fun e w' => e = .returned (.bool true) ∧ Below w.heap.size w w' := by
  go_enter Try.func4, Try.ntmps4
  go_wp2_with fail
  refine (new_ok n h1 h2).mono ?_
  rintro e w1 ⟨rfl, hd1, b1⟩
  have s1 := b1.size
  go_wp2_with fail
  refine (rnew_ok n h1 h2).mono ?_
  rintro e w2 ⟨rfl, ht2, b2⟩
  have s2 := b2.size
  have hd2 := hd1.bound.step (w1 := w2) (fun k _ hk => b2.block k hk)
  go_wp2_with fail
  refine alive21.mono ?_
  rintro e w3 ⟨rfl, b3⟩
  have s3 := b3.size
  have hd3 := hd2.step (w1 := w3) (fun k _ hk => b3.block k hk)
  have ht3 := ht2.bound.step (w1 := w3) (fun k _ hk => b3.block k hk)
  have hbo : Both w.heap.size w3 (w.heap.size + 1) (w1.heap.size + 1) (DM.new n) := ⟨_, _, hd3, ht3, fun k h1 h2 => by omega, fun k hk => by omega, fun k hk => by omega⟩
  have t3 : Below w.heap.size w w3 := b1.trans ((b2.mono s1).trans (b3.mono (by omega)))
  generalize w.heap.size + 1 = p at hbo ⊢
  generalize w1.heap.size + 1 = q at hbo ⊢
  clear hd1 hd2 hd3 ht2 ht3 b1 b2 b3
  go_wp2_with fail
  go_loopw [5, 7, 9, 10] (fun d t v i wr => ∃ (k p q : Nat) (D : DM), k ≤ l.length ∧ k ≤ 200 ∧ i = .int .i64 k ∧ d = .pointer (some ⟨p, 0, none⟩) ∧ t = .pointer (some ⟨q, 0, none⟩) ∧ v = .bool true ∧ Both w.heap.size wr p q D ∧ D.ws.length ≤ k ∧ Below w.heap.size w wr) (fun _ _ _ i _ => l.length - (intOf i).toNat)
  case atStart => exact ⟨0, p, q, _, Nat.zero_le _, by omega, rfl, rfl, rfl, rfl, hbo, Nat.zero_le _, t3⟩
  case round =>
    obtain ⟨k, p, q, D, hk, hk2, rfl, rfl, rfl, rfl, hb, hlen, hB⟩ := hrel
    by_cases hlt : k < l.length
    · have hlt' : (k : Int) < (l.length : Int) := by omega
      by_cases hlt2 : k < 200
      · cases A with
        | none =>
          have := C_none hC
          subst this
          simp at hlt
        | some ad =>
        obtain ⟨A1, c1, hcell, hCb⟩ := op_at hC hlt
        have ho := hok l[k] (List.getElem_mem hlt)
        have hcw : ∀ j v, (l[k].cells A1 c1)[j]? = some v → wr.cell? ((ad.add (k * 6)).add j) = some v := fun j v hj => pw_cell_below hB (hcell j v hj)
        have HCW := hid hcw
        clear hcw hcell hC
        have hs := hB.size
        go_wp2_with (refine wpList_load_addr rfl 31 (.tmp 52) rfl (ad.add (k * 6)) rfl [.int .i64 l[k].kind, .int .i64 l[k].at_, .int .i64 l[k].n, .int .u8 l[k].fill, .slice A1 l[k].bytes.length c1, .bool l[k].odd] _ HCW.out Try.underlying31 rfl (by kernel_rfl) ?_)
        refine (does_any l[k] ho hb hs (fun w' hw => Kd.C_below hCb (hB.trans hw)) (by omega)).mono ?_
        rintro e w4 ⟨p4, q4, rfl, hb4, b4⟩
        have hln := op_len D l[k]
        have t4 := hB.trans b4
        generalize D.op l[k] = D4 at hb4 hln
        go_wp2_with fail
        refine (hb4.same (by omega)).mono ?_
        rintro e w5 ⟨rfl, b5⟩
        have hb5 := hb4.below b5
        have t5 := t4.trans (b5.mono t4.size)
        go_wp2
        go_roundw
        case rel => exact ⟨k + 1, p4, q4, D4, by omega, by omega, by go_num, rfl, rfl, rfl, hb5, by omega, t5⟩
        case measure => simp [intOf]; omega
      · go_wp2
        go_ret
        exact ⟨rfl, hB⟩
    · go_wp2
      go_ret
      exact ⟨rfl, hB⟩
theorem plays_any {w : World} {A : Option Addr} {c : Nat} {l : List OP} (n : Int) (hC : KOp.C w A l.length l) (hG : (∀ o ∈ l, o.ok) ∧ l.length * 64 ≤ 140737488351232) :
  Calls Try.prog 4 #[.int .i64 n, .slice A l.length c] w fun e w' => e = .returned (.bool true) ∧ Below w.heap.size w w' := by
  by_cases h : n < 16 ∨ 4096 < n
  · exact plays_out h
  · obtain ⟨m, rfl⟩ := Int.eq_ofNat_of_zero_le (show 0 ≤ n by omega)
    exact plays_in m (by omega) (by omega) hC hG.1
end Go.Proofs.Ytpgiooheoafieaa
