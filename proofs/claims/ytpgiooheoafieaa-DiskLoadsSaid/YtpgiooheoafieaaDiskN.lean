/- Load of both disks, refused; the document's Load. -/
import Derived.Test.YtpgiooheoafieaaDiskL
import Derived.Test.YtpgiooheoafieaaRefX
set_option linter.unusedVariables false
set_option linter.unusedSimpArgs false
namespace Go.Proofs.Ytpgiooheoafieaa
open Go.RowKit Go.Proofs.YtpgiooheoafieaaW.PrintWords

set_option maxRecDepth 100000 in
theorem dload_err {w : World} {A : Option Addr} {c : Nat} {b : List Int} (hl : b.length ≤ 9223372036854775807) (h : ¬ (b.length % 64 = 0 ∧ 16 ≤ b.length / 64 ∧ b.length / 64 ≤ 4096)) :
  Calls Try.prog 30 #[.slice A b.length c] w fun e w' => e = .returned (.tuple #[.pointer none, .int .i64 1]) ∧ w = w' := by
  have hq2 : ((b.length : Int)).tdiv 64 = ((b.length / 64 : Nat) : Int) := by rw [Int.tdiv_eq_ediv_of_nonneg (by omega)]; omega
  by_cases hm : b.length % 64 = 0
  · have hq1 : (b.length : Int) % 64 = 0 := by omega
    have hn : ((b.length / 64 : Nat) : Int) < 16 ∨ 4096 < ((b.length / 64 : Nat) : Int) := by omega
    have HN := hid hn
    clear hm h hn
    have h9 : b.length / 64 ≤ 9223372036854775807 := by omega
    generalize hx : b.length / 64 = x at hq2 HN h9
    clear hx
    go_enter Try.func30, Try.ntmps30
    go_wp2_with fail
    refine (new_err x HN.out).mono ?_
    rintro e w1 ⟨rfl, rfl⟩
    go_wp2
    go_ret2
    exact ⟨rfl, rfl⟩
  · have hq1 : ((b.length : Int) % 64 != 0) = true := by simp; omega
    clear hm h hq2
    go_enter Try.func30, Try.ntmps30
    go_wp2
    go_ret2
    exact ⟨rfl, rfl⟩
set_option maxRecDepth 100000 in
theorem rload_err {w : World} {A : Option Addr} {c : Nat} {b : List Int} (hl : b.length ≤ 9223372036854775807) (h : ¬ (b.length % 64 = 0 ∧ 16 ≤ b.length / 64 ∧ b.length / 64 ≤ 4096)) :
  Calls Try.prog 31 #[.slice A b.length c] w fun e w' => e = .returned (.tuple #[.pointer none, .int .i64 1]) ∧ Below w.heap.size w w' := by
  have hq2 : ((b.length : Int)).tdiv 64 = ((b.length / 64 : Nat) : Int) := by rw [Int.tdiv_eq_ediv_of_nonneg (by omega)]; omega
  by_cases hn : b.length / 64 < 16 ∨ 4096 < b.length / 64
  · have hn' : ((b.length / 64 : Nat) : Int) < 16 ∨ 4096 < ((b.length / 64 : Nat) : Int) := by omega
    have HN := hid hn'
    clear h hn hn'
    have h9 : b.length / 64 ≤ 9223372036854775807 := by omega
    generalize hx : b.length / 64 = x at hq2 HN h9
    clear hx
    go_enter Try.func31, Try.ntmps31
    go_wp2_with fail
    refine (rnew_err x HN.out).mono ?_
    rintro e w1 ⟨rfl, rfl⟩
    go_wp2
    go_ret2
    exact ⟨rfl, Below.refl _ _⟩
  · have hq1 : ((b.length : Int) % 64 != 0) = true := by simp; omega
    have h16 : 16 ≤ b.length / 64 := by omega
    have h40 : b.length / 64 ≤ 4096 := by omega
    clear h hn
    generalize hx : b.length / 64 = x at hq2 h16 h40
    clear hx
    go_enter Try.func31, Try.ntmps31
    go_wp2_with fail
    refine (rnew_ok x h16 h40).mono ?_
    rintro e w1 ⟨rfl, _, hB⟩
    go_wp2
    go_ret2
    exact ⟨rfl, hB⟩
set_option maxRecDepth 100000 in
theorem rload_ok {w : World} {a : Addr} {c : Nat} {b : List Int} (n : Nat) (hC : KB.C w (some a) b.length b) (hn : b.length = 64 * n) (h1 : 16 ≤ n) (h2 : n ≤ 4096) (hB : Bytes b) :
  Calls Try.prog 31 #[.slice (some a) b.length c] w fun e w' => ∃ q, e = .returned (.tuple #[.pointer (some ⟨q, 0, none⟩), .int .i64 0]) ∧ RDisk w' (fun k => w.heap.size ≤ k) q (DM.load b) ∧ Below w.heap.size w w' := by
  have hq1 : (b.length : Int) % 64 = 0 := by omega
  have hq2 : ((b.length : Int)).tdiv 64 = (n : Int) := by rw [Int.tdiv_eq_ediv_of_nonneg (by omega)]; omega
  have HN := hid hn
  have hl9 : b.length ≤ 262144 := by omega
  clear hn
  go_enter Try.func31, Try.ntmps31
  go_wp2_with fail
  refine (rnew_ok n h1 h2).mono ?_
  rintro e w1 ⟨rfl, ⟨_, g, cap, wv, hb1⟩, hB1⟩
  have c0 := hb1.cell0
  have z0 := hb1.free 0
  have hCk := Kd.C_below hC hB1
  have hqs : w.heap.size ≤ w.heap.size + 1 := by omega
  have hql : w.heap.size + 1 < w1.heap.size := blk_lt hb1.blk
  generalize w.heap.size + 1 = q at hb1 c0 hqs hql z0 ⊢
  have hsz1 := hB1.size
  clear hq2
  go_wp2_with (at_builtin; refine print_append_row (w0 := w1) w1.heap.size rfl (.tmp 22) (.tmp 23) 29 5 .u8 1 rfl Try.underlying29 info_u8 (by decide) _ [] b (some a) b.length c rfl rfl ?HO ?HR ?HB ?hb ?hl ?_)
  case HO => exact World.ownsRow_made (base := w1.heap.size) w1 #[] 0 (Nat.le_refl _) (Nat.zero_le _) rfl
  case HR => exact (C_int hCk).below (below_alloc (Below.refl _ _) _)
  case HB => exact below_alloc (Below.refl _ _) _
  case hb => simp
  case hl => simp; omega
  intro v1 w2 ho hB2 hg hat
  have ho' : w2.ownsRow w1.heap.size 5 1 v1 b.length (nums .u8 b) := by simpa using ho
  obtain ⟨g2, cap2, rfl, hgb, _⟩ := ho'.form (by have := HN.out; omega)
  have hb2 := hb1.below hB2
  have d0 := hb2.cell0
  have y0 := hb2.free 0
  have hws1 : KW.R 131 w1 0 (fun k => w.heap.size ≤ k ∧ k ≠ g2) wv [] := Kd.R_mono (Kd.R_bound hb1.ws) (fun k hk => ⟨hk.1.1, by have := hk.2.2.1; omega⟩)
  have hws2 := Kd.R_below hws1 hB2
  have hbn : RDb (w2.setCell ⟨q, 0, none⟩ (.slice (some ⟨g2, 0, none⟩) b.length cap2)) (fun k => w.heap.size ≤ k) q (DM.load b) g2 cap2 wv :=
    ⟨hqs, Nat.le_trans hsz1 hgb, heap_setCell_same w2 q 0 _ _ _ hb2.blk, own_weaken (own_move ho' (fun k hk => by rw [← ob_eq hk]; exact Below.heap_setCell w2 _ _ _ (show g2 ≠ q by omega))) (Nat.zero_le _), Kd.R_set hws2 hb2.blk (by decide) 0 _⟩
  have hBn : Below w.heap.size w (w2.setCell ⟨q, 0, none⟩ (.slice (some ⟨g2, 0, none⟩) b.length cap2)) := (hB1.trans (hB2.mono hsz1)).setCell (p := ⟨q, 0, none⟩) hqs _
  clear ho hg hat c0 z0
  go_wp2
  go_ret2
  exact ⟨q, rfl, ⟨load_wf HN.out h1 h2 hB, g2, cap2, wv, hbn⟩, hBn⟩
end Go.Proofs.Ytpgiooheoafieaa
