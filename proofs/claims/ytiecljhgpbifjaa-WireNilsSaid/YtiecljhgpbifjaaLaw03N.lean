/- foundrylaw03.WireNils answers true. -/
import Derived.Test.YtiecljhgpbifjaaWireE
import Derived.Test.YtiecljhgpbifjaaLaw03R
set_option linter.unusedVariables false
set_option linter.unusedSimpArgs false
namespace Go.Proofs.Ytiecljhgpbifjaa
open Go.RowKit Go.Proofs.YtiecljhgpbifjaaW.PrintWords

theorem RB_empty (w : World) (ok : Nat → Prop) : RB w ok none [] := fun _ _ => ⟨rfl, by simp, fun h => absurd h (by simp)⟩
theorem nil_fref (w : World) : PFt (w.alloc (.cells #[.slice none 0 0, .int .i64 0, .int .i64 2] 46)) (fun k => k = w.heap.size) w.heap.size ⟨[], 2⟩ :=
  ⟨[], 0, ⟨rfl, Bytes.nil, Nat.le_refl _, by simp, none, 0, heap_alloc_new w _, RB_empty _ _, Nat.le_refl _⟩, fun h => absurd h (by show ¬ (2 : Int) = 0; decide)⟩
set_option maxRecDepth 100000 in
set_option maxHeartbeats 4000000 in
theorem nils_any {w : World} {A A2 : Option Addr} {c c2 : Nat} (o : OQ) (ho : o.ok) (hC1 : (Kd.int .i64).C w A o.l.length o.l) (hC2 : Kd.string.C w A2 o.t.length o.t) :
  Calls Try.prog 7 #[oqAgg o A c A2 c2] w fun e w' => e = .returned (.bool true) ∧ Below w.heap.size w w' := by
  have hB1 := below_alloc (Below.refl w.heap.size w) (oqObj o A c A2 c2)
  have hD1 := Kd.C_below hC1 hB1
  have hD2 := Kd.C_below hC2 hB1
  have hcell : ∀ j v, (o.cells A c A2 c2)[j]? = some v → (w.alloc (oqObj o A c A2 c2)).cell? ((⟨w.heap.size, 0, none⟩ : Addr).add j) = some v := by
    intro j v hj
    rw [add_plain, cell_of_row _ w.heap.size _ _ _ _ (heap_alloc_new w _)]
    simpa [OQ.cells] using hj
  have hw := write_nil (c := c) (c2 := c2) o ho hD1 hD2
  unfold oqObj at hB1 hD1 hD2 hcell hw
  clear hC1 hC2
  go_enter Try.func7, Try.ntmps7
  go_wp2_with (refine wpList_load_addr rfl 32 (.tmp 1) rfl ⟨w.heap.size, 0, none⟩ rfl [.int .i64 o.kind, .int .u64 o.n, .string o.s, .slice A o.l.length c, .slice A2 o.t.length c2, .int .i64 o.most, .int .i64 o.long] _ hcell Try.underlying32 rfl (by kernel_rfl) ?_)
  go_wp2_with fail
  refine hw.mono ?_
  rintro e w2 ⟨rfl, hB2⟩
  have hBw : Below w.heap.size w w2 := hB1.trans (hB2.mono (by simp))
  have hcell2 : ∀ j v, (o.cells A c A2 c2)[j]? = some v → w2.cell? ((⟨w.heap.size, 0, none⟩ : Addr).add j) = some v := fun j v hj => pw_cell_below hB2 (hcell j v hj)
  have hF := nil_fref w2
  have hBf := below_alloc (Below.refl w2.heap.size w2) (.cells #[.slice none 0 0, .int .i64 0, .int .i64 2] 46)
  have hcell3 : ∀ j v, (o.cells A c A2 c2)[j]? = some v → (w2.alloc (.cells #[.slice none 0 0, .int .i64 0, .int .i64 2] 46)).cell? ((⟨w.heap.size, 0, none⟩ : Addr).add j) = some v := fun j v hj => pw_cell_below hBf (hcell2 j v hj)
  have hT : Two (w2.alloc (.cells #[.slice none 0 0, .int .i64 0, .int .i64 2] 46)) (fun _ => False) (fun k => k = w2.heap.size) none w2.heap.size ⟨[], 2⟩ := ⟨rfl, hF, fun k hk => hk.elim, fun k hk => by rw [hk]; simp, fun k hk => hk.elim⟩
  have hAsk := asked_any (A := A) (c := c) (A2 := A2) (c2 := c2) o hT
  have hBg : Below w.heap.size w (w2.alloc (.cells #[.slice none 0 0, .int .i64 0, .int .i64 2] 46)) := hBw.trans (hBf.mono hBw.size)
  have s2 : w.heap.size ≤ w2.heap.size := hBw.size
  clear hF hT hw hD1 hD2 hcell hcell2 hB1 hB2 hBw hBf
  go_wp2_with fail
  refine wlen_nil.mono ?_
  rintro e w3 ⟨rfl, rfl⟩
  go_wp2_with fail
  refine wbytes_nil.mono ?_
  rintro e w3 ⟨rfl, rfl⟩
  have z0 := hcell3 0 _ rfl
  have z1 := hcell3 1 _ rfl
  have z2 := hcell3 2 _ rfl
  have z3 := hcell3 3 _ rfl
  have z4 := hcell3 4 _ rfl
  have z5 := hcell3 5 _ rfl
  have z6 := hcell3 6 _ rfl
  simp only [add_plain, Nat.zero_add] at z0 z1 z2 z3 z4 z5 z6
  go_wp2_with fail
  refine hAsk.mono ?_
  rintro e w3 ⟨rfl, _, _, hC⟩
  have hB3 : Below w.heap.size w w3 := hBg.trans (hC.below_ (B := w.heap.size) hBg.size (fun k hk => by
    rcases hk with e | e
    · cases e
    · omega))
  clear z0 z1 z2 z3 z4 z5 z6 hAsk hC hBg hcell3
  go_wp2_with fail
  refine error_nil.mono ?_
  rintro e w4 ⟨rfl, rfl⟩
  go_wp2_with fail
  refine done_nil.mono ?_
  rintro e w4 ⟨rfl, rfl⟩
  go_wp2_with fail
  refine left_nil.mono ?_
  rintro e w4 ⟨rfl, rfl⟩
  go_wp2_with fail
  refine (alive_any w3).mono ?_
  rintro e w4 ⟨rfl, hB4⟩
  have HB := hid (hB3.trans (hB4.mono hB3.size))
  clear hB3 hB4
  go_wp2
  go_ret
  exact ⟨rfl, HB.out⟩
theorem nils_row {w : World} {o : OQ} {cs : Array Value} (k : KOQ.K w o cs.toList) (ho : o.ok) : Calls Try.prog 7 #[.agg cs] w fun e w' => e = .returned (.bool true) ∧ Below w.heap.size w w' := by
  obtain ⟨A, c, A2, c2, he, h1, h2⟩ := KOQ_agg k
  rw [he]
  exact nils_any o ho h1 h2
end Go.Proofs.Ytiecljhgpbifjaa
