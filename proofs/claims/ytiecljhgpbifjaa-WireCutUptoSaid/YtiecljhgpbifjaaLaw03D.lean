/- WireBack answers true, where what comes in is not too long. -/
import Derived.Test.YtiecljhgpbifjaaLaw03C
set_option linter.unusedVariables false
set_option linter.unusedSimpArgs false
namespace Go.Proofs.Ytiecljhgpbifjaa
open Go.RowKit Go.Proofs.YtiecljhgpbifjaaW.PrintWords

theorem bytesOf_bytes (s : ByteArray) : Bytes (bytesOf s) := by
  intro x hx
  unfold bytesOf at hx
  obtain ⟨t, _, rfl⟩ := List.mem_map.1 hx
  have := t.toNat_lt
  omega
theorem rawB_bytes {xs : List Int} (h : Bytes xs) : Bytes (rawB xs) := (be_bytes _ _).append h
theorem flat_bytes {α : Type} {f : α → List Int} (l : List α) (h : ∀ x ∈ l, Bytes (f x)) : Bytes (l.flatMap f) := by
  intro x hx
  obtain ⟨a, ha, hxa⟩ := List.mem_flatMap.1 hx
  exact h a ha x hxa
theorem B_bytes (o : OQ) : Bytes o.B := by
  unfold OQ.B
  repeat' split
  · intro x hx; simp at hx; omega
  · intro x hx; simp at hx; omega
  · intro x hx; simp at hx; omega
  · exact be_bytes _ _
  · exact be_bytes _ _
  · exact be_bytes _ _
  · exact rawB_bytes (bytesOf_bytes _)
  · exact rawB_bytes (bytesOf_bytes _)
  · exact (be_bytes _ _).append (flat_bytes _ (fun _ _ => be_bytes _ _))
  · exact (be_bytes _ _).append (flat_bytes _ (fun _ _ => rawB_bytes (bytesOf_bytes _)))
  · exact Bytes.nil
theorem allB_bytes (l : List OQ) : Bytes (allB l) := flat_bytes l (fun o _ => B_bytes o)
set_option maxRecDepth 100000 in
set_option maxHeartbeats 4000000 in
theorem wireback_any {w : World} {B : Option Addr} {d : Nat} {l : List OQ} (hL : KOQ.C w B l.length l) (hG : (∀ x ∈ l, x.ok) ∧ l.length * 96 ≤ 140737488351232) (hm : (l.map OQ.m).sum ≤ 1048576) :
  Calls Try.prog 5 #[.slice B l.length d] w fun e w' => e = .returned (.bool true) ∧ Below w.heap.size w w' := by
  have hT : (allB l).length ≤ 16777216 := by have := allB_len l; omega
  have h0 := new_writer w
  have hB0 : Below w.heap.size w (w.alloc (.cells #[.slice none 0 0] 26)) := below_alloc (Below.refl _ _) _
  have hstart : ∃ okw : Nat → Prop, PWr (w.alloc (.cells #[.slice none 0 0] 26)) okw w.heap.size [] ∧ (∀ j, okw j → w.heap.size ≤ j ∧ j < (w.alloc (.cells #[.slice none 0 0] 26)).heap.size) :=
    ⟨_, h0.bound, fun j hj => hj⟩
  have hb9 : (l.length : Int) ≤ 140737488351232 := by omega
  clear h0
  go_enter Try.func5, Try.ntmps5
  go_wp2_with fail
  go_loopw [4] (fun i wr => ∃ (k : Nat) (okw : Nat → Prop), k ≤ l.length ∧ i = .int .i64 k ∧ PWr wr okw w.heap.size (allB (l.take k)) ∧ (∀ j, okw j → w.heap.size ≤ j ∧ j < wr.heap.size) ∧ Below w.heap.size w wr) (fun i _ => l.length - (intOf i).toNat)
  case atStart =>
    obtain ⟨okw, h1, h2⟩ := hstart
    exact ⟨0, okw, Nat.zero_le _, rfl, h1, h2, hB0⟩
  case round =>
    clear hstart hB0
    obtain ⟨k, okw, hk, rfl, hw, hok, hBw⟩ := hrel
    by_cases hlt : k < l.length
    · have hlt' : (k : Int) < (l.length : Int) := by omega
      cases B with
      | none =>
        have := C_none hL
        subst this
        simp at hlt
      | some ad =>
      obtain ⟨A1, e1, A2, e2, hcell, hCl, hCt⟩ := oq_at hL hlt
      have hstep := allB_take hlt
      have hle := allB_le hlt
      have ho := hG.1 l[k] (List.getElem_mem hlt)
      generalize l[k] = o at hcell hCl hCt hstep hle ho
      have hcw : ∀ j v, (o.cells A1 e1 A2 e2)[j]? = some v → wr.cell? ((ad.add (k * 7)).add j) = some v := fun j v hj => pw_cell_below hBw (hcell j v hj)
      generalize hTk : allB (l.take k) = T at hw hstep hle
      generalize hTk1 : allB (l.take (k + 1)) = T1 at hstep
      have HT1 := hid hTk1
      clear hTk hTk1
      go_wp2_with (refine wpList_load_addr rfl 32 (.tmp 18) rfl (ad.add (k * 7)) rfl [.int .i64 o.kind, .int .u64 o.n, .string o.s, .slice A1 o.l.length e1, .slice A2 o.t.length e2, .int .i64 o.most, .int .i64 o.long] _ hcw Try.underlying32 rfl (by kernel_rfl) ?_)
      go_wp2_with fail
      refine (write_any (A := A1) (c := e1) (A2 := A2) (c2 := e2) o ho hw (fun j hj => (hok j hj).2) (by omega) (fun w' hc => Kd.C_below hCl (hBw.trans (hc.below_ (B := w.heap.size) hBw.size (fun j hj => (hok j hj).1)))) (fun w' hc => Kd.C_below hCt (hBw.trans (hc.below_ (B := w.heap.size) hBw.size (fun j hj => (hok j hj).1))))).mono ?_
      rintro e w2 ⟨rfl, h2, c2⟩
      have hB2 : Below w.heap.size w w2 := hBw.trans (c2.below_ (B := w.heap.size) hBw.size (fun j hj => (hok j hj).1))
      have hw2 := h2.bound
      rw [hstep] at hw2
      have hok2 : ∀ j, (orNew okw wr j ∧ j < w2.heap.size) → w.heap.size ≤ j ∧ j < w2.heap.size := fun j hj => ⟨hj.1.elim (fun h => (hok j h).1) (fun h => Nat.le_trans hBw.size h), hj.2⟩
      have HF := hid (And.intro hw2 (And.intro hok2 hB2))
      clear hcw h2 c2 hw hw2 hok2 hB2
      go_wp2
      go_roundw
      case rel => exact ⟨k + 1, _, by omega, by go_num, by rw [HT1.out]; exact HF.out⟩
      case measure => simp [intOf]; omega
    · obtain rfl : k = l.length := by omega
      rw [List.take_length] at hw
      have hsw := hBw.size
      go_wp2_with fail
      refine (wbytes_any hw (by omega)).mono ?_
      rintro e w2 ⟨A2, c2, rfl, hR2, hB2⟩
      have s2 := hB2.size
      go_wp2_with fail
      refine (read_any (c := c2) (Kd.F_now (R_RB hR2).2) (allB_bytes l) (by omega)).mono ?_
      rintro e w3 ⟨p, rfl, hP, hB3⟩
      have s3 := hB3.size
      go_wp2_with fail
      refine (alive_any w3).mono ?_
      rintro e w4 ⟨rfl, hB4⟩
      have s4 := hB4.size
      have hpk : w2.heap.size ≤ p ∧ p < w3.heap.size := by obtain ⟨_, h, _⟩ := hP; exact h.okp
      have hP4 := PSt.below hP hB4
      have hBw4 : Below w.heap.size w w4 := ((hBw.trans (hB2.mono hsw)).trans (hB3.mono (by omega))).trans (hB4.mono (by omega))
      clear hw hR2 hP
      generalize hn2 : w2.heap.size = n2 at hP4 hpk
      generalize hn3 : w3.heap.size = n3 at hP4 hpk
      go_wp2_with fail
      go_loopw [6] (fun i wr => ∃ k : Nat, k ≤ l.length ∧ i = .int .i64 k ∧ PSt wr (fun j => n2 ≤ j ∧ j < n3) p ⟨allB (l.drop k), 0⟩ ∧ Below w.heap.size w wr ∧ n3 ≤ wr.heap.size) (fun i _ => l.length - (intOf i).toNat)
      case atStart => exact ⟨0, Nat.zero_le _, rfl, hP4, hBw4, by omega⟩
      case round =>
        clear hP4 hBw4
        obtain ⟨k, hk, rfl, hP5, hBw5, hn5⟩ := hrel
        by_cases hlt : k < l.length
        · have hlt' : (k : Int) < (l.length : Int) := by omega
          cases B with
          | none =>
            have := C_none hL
            subst this
            simp at hlt
          | some ad =>
          obtain ⟨A1, e1, A2, e2, hcell, hCl, hCt⟩ := oq_at hL hlt
          have hstep := allB_drop hlt
          have ho := hG.1 l[k] (List.getElem_mem hlt)
          have hmk := Nat.le_trans (m_mem (List.getElem_mem hlt)) hm
          generalize l[k] = o at hcell hCl hCt hstep ho hmk
          rw [hstep] at hP5
          have hcw : ∀ j v, (o.cells A1 e1 A2 e2)[j]? = some v → wr.cell? ((ad.add (k * 7)).add j) = some v := fun j v hj => pw_cell_below hBw5 (hcell j v hj)
          have hbel : ∀ w', Chg (fun k => k = p) wr w' → Below w.heap.size w w' := fun w' hc => hBw5.trans (hc.below_ (B := w.heap.size) hBw5.size (fun j hj => by omega))
          go_wp2_with (refine wpList_load_addr rfl 32 (.tmp 39) rfl (ad.add (k * 7)) rfl [.int .i64 o.kind, .int .u64 o.n, .string o.s, .slice A1 o.l.length e1, .slice A2 o.t.length e2, .int .i64 o.most, .int .i64 o.long] _ hcw Try.underlying32 rfl (by kernel_rfl) ?_)
          go_wp2_with fail
          refine (back_good (A := A1) (c := e1) (A2 := A2) (c2 := e2) o ho hmk hP5 (fun j hj => by omega) (fun w' hc => Kd.C_below hCl (hbel w' hc)) (fun w' hc => Kd.C_below hCt (hbel w' hc))).mono ?_
          rintro e w6 ⟨rfl, hP6, hc6⟩
          have hB6 := hbel w6 hc6
          have herr := errs_any hP6
          have hn6 : n3 ≤ w6.heap.size := Nat.le_trans hn5 hc6.size
          have HF := hid (And.intro hP6 (And.intro hB6 hn6))
          clear hcw hbel hP6 hP5 hc6 hB6
          go_wp2_with fail
          refine herr.mono ?_
          rintro e w7 ⟨rfl, rfl⟩
          clear herr
          go_wp2
          go_roundw
          case rel => exact ⟨k + 1, by omega, by go_num, HF.out⟩
          case measure => simp [intOf]; omega
        · obtain rfl : k = l.length := by omega
          rw [List.drop_length] at hP5
          have hdn := done_any hP5
          have hlf := left_any hP5
          have e1 : (⟨allB [], 0⟩ : St).done = 0 := rfl
          have e2 : (⟨allB [], 0⟩ : St).left = 0 := rfl
          rw [e1] at hdn
          rw [e2] at hlf
          have HB := hid hBw5
          clear hP5 hBw5
          go_wp2_with fail
          refine hdn.mono ?_
          rintro e w7 ⟨rfl, rfl⟩
          go_wp2_with fail
          refine hlf.mono ?_
          rintro e w7 ⟨rfl, rfl⟩
          go_wp2
          go_ret
          exact ⟨rfl, HB.out⟩
end Go.Proofs.Ytiecljhgpbifjaa
