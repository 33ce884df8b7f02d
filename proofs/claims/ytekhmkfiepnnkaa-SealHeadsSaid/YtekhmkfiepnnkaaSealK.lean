/- seal.Read: what it tells; its ways out. -/
import Derived.Test.YtekhmkfiepnnkaaSealJ
set_option linter.unusedVariables false
set_option linter.unusedSimpArgs false
namespace Go.Proofs.Ytekhmkfiepnnkaa
open Go.RowKit Go.Proofs.YtekhmkfiepnnkaaW.PrintWords Go.Proofs.YtekhmkfiepnnkaaW.PrintMore
attribute [local go_sem] max_three max2_int min_two min2_int

def bodiesN (n : Nat) : Nat := (n - 47 + 49) / 50
/-- How many bytes body block k + 1 has. -/
def hasK (n k : Nat) : Nat := min (n - (47 + 50 * k)) 50
/-- The bytes that a head and k body blocks tell. -/
def bytesK (D : DM) (b0 n : Nat) : Nat → List Int
  | 0 => (headR (D.blk b0)).bytes
  | k + 1 => bytesK D b0 n k ++ ((D.blk (b0 + (k + 1))).drop 14).take (hasK n k)
/-- Is block b0 + k + 1 body k + 1 of that record? -/
def goodK (D : DM) (b0 n : Nat) (gen at_ : Int) (k : Nat) : Bool :=
  decide (bodyV (D.blk (b0 + (k + 1))) = (gen, at_, ((k + 1 : Nat) : Int), true)) && blank ((D.blk (b0 + (k + 1))).drop (14 + hasK n k))
def readE (D : DM) (base end_ at_ : Int) : Int := if at_ < 0 then 1 else regE D base end_
/-- The record that Read tells of. -/
def readV (D : DM) (base end_ gen at_ : Int) : Option SR :=
  if readE D base end_ at_ = 0 ∧ at_ < end_ - base ∧ headOK (D.blk (base + at_).toNat) ∧ (headR (D.blk (base + at_).toNat)).gen = gen ∧ (headR (D.blk (base + at_).toNat)).at_ = at_ ∧
      need (headN (D.blk (base + at_).toNat)) ≤ end_ - base - at_ ∧
      ((List.range (bodiesN (headN (D.blk (base + at_).toNat)).toNat)).all (goodK D (base + at_).toNat (headN (D.blk (base + at_).toNat)).toNat gen at_)) = true then
    some ⟨gen, at_, (headR (D.blk (base + at_).toNat)).kind, bytesK D (base + at_).toNat (headN (D.blk (base + at_).toNat)).toNat (bodiesN (headN (D.blk (base + at_).toNat)).toNat)⟩
  else none
def noR : SR := ⟨0, 0, 0, []⟩
/-- What Read hands back. -/
def ReadPost (v : Option SR) (E : Int) (w : World) (e : Ending) (w' : World) : Prop :=
  ∃ A c, e = .returned (.tuple #[recV (v.getD noR) A c, .bool v.isSome, .int .i64 E]) ∧ KB.R 5 w' w.heap.size (fun k => w.heap.size ≤ k) (.slice A (v.getD noR).bytes.length c) (v.getD noR).bytes ∧ (v.getD noR).bytes.length ≤ c ∧ Below w.heap.size w w'
theorem readpost_none {E : Int} {w w' : World} {v : Value} (hv : v = .tuple #[.agg #[.int .u64 0, .int .i64 0, .int .i64 0, .slice none 0 0], .bool false, .int .i64 E]) (hB : Below w.heap.size w w') : ReadPost none E w (.returned v) w' :=
  ⟨none, 0, by rw [hv]; rfl, Kd.R_nil _ _ _ _ _, Nat.le_refl _, hB⟩
theorem headR_zero {w : World} : (w.alloc (.cells #[.int .u64 0, .int .i64 0, .int .i64 0, .slice none 0 0] 25)).heap[w.heap.size]? = some (.cells #[.int .u64 0, .int .i64 0, .int .i64 0, .slice none 0 0] 25 (0, 0)) := heap_alloc_new w _
set_option maxRecDepth 100000 in
theorem read_nilD {w : World} (base end_ gen at_ : Int) :
  Calls Try.prog 29 #[.pointer none, .int .i64 base, .int .i64 end_, .int .u64 gen, .int .i64 at_] w (ReadPost none 2 w) := by
  go_enter Try.func29, Try.ntmps29
  go_wp2
  refine bodyPost_ret (results_ctt rfl _ _ w.heap.size 25 _ _ _ rfl (heap_alloc_new w _) Try.underlying25 rfl (by kernel_rfl)) rfl ?_
  exact readpost_none rfl (below_alloc (Below.refl _ _) _)
set_option maxRecDepth 100000 in
set_option maxHeartbeats 1000000 in
theorem read_errD {w : World} {ok : Nat → Prop} {p : Nat} {D : DM} (h : PDisk w ok p D) (base end_ gen at_ : Int) (he : ¬ readE D base end_ at_ = 0) :
  Calls Try.prog 29 #[.pointer (some ⟨p, 0, none⟩), .int .i64 base, .int .i64 end_, .int .u64 gen, .int .i64 at_] w (ReadPost none (readE D base end_ at_) w) := by
  have hB0 : Below w.heap.size w (w.alloc (.cells #[.int .u64 0, .int .i64 0, .int .i64 0, .slice none 0 0] 25)) := below_alloc (Below.refl _ _) _
  have h0 := h.step (w1 := w.alloc (.cells #[.int .u64 0, .int .i64 0, .int .i64 0, .slice none 0 0] 25)) (fun k _ hk => hB0.block k hk)
  have hB := blocks_any h0
  have hR := region_any h0 base end_
  have HB0 := hid hB0
  clear hB0
  by_cases h1 : base < 0
  · have hE : readE D base end_ at_ = 1 := by unfold readE regE; split <;> simp [h1]
    rw [hE]
    go_enter Try.func29, Try.ntmps29
    go_wp2
    refine bodyPost_ret (results_ctt rfl _ _ w.heap.size 25 _ _ _ rfl (heap_alloc_new w _) Try.underlying25 rfl (by kernel_rfl)) rfl ?_
    exact readpost_none rfl HB0.out
  by_cases h2 : end_ < base
  · have hE : readE D base end_ at_ = 1 := by unfold readE regE; split <;> simp [h2]
    rw [hE]
    go_enter Try.func29, Try.ntmps29
    go_wp2
    refine bodyPost_ret (results_ctt rfl _ _ w.heap.size 25 _ _ _ rfl (heap_alloc_new w _) Try.underlying25 rfl (by kernel_rfl)) rfl ?_
    exact readpost_none rfl HB0.out
  by_cases h3 : (D.n : Int) < end_
  · have hE : readE D base end_ at_ = 1 := by unfold readE regE; split <;> simp [h3]
    rw [hE]
    go_enter Try.func29, Try.ntmps29
    go_wp2_with (go_at_call 65; refine hB.mono ?_; rintro e w' ⟨rfl, rfl⟩)
    refine bodyPost_ret (results_ctt rfl _ _ w.heap.size 25 _ _ _ rfl (heap_alloc_new w _) Try.underlying25 rfl (by kernel_rfl)) rfl ?_
    exact readpost_none rfl HB0.out
  by_cases h4 : at_ < 0
  · have hE : readE D base end_ at_ = 1 := by unfold readE; simp [h4]
    rw [hE]
    go_enter Try.func29, Try.ntmps29
    go_wp2_with (go_at_call 65; refine hB.mono ?_; rintro e w' ⟨rfl, rfl⟩)
    refine bodyPost_ret (results_ctt rfl _ _ w.heap.size 25 _ _ _ rfl (heap_alloc_new w _) Try.underlying25 rfl (by kernel_rfl)) rfl ?_
    exact readpost_none rfl HB0.out
  have hE : readE D base end_ at_ = regE D base end_ := by unfold readE; rw [if_neg h4]
  rw [hE] at he ⊢
  generalize regE D base end_ = E at he hR ⊢
  have he2 : (E != 0) = true := by simpa using he
  clear hE
  go_enter Try.func29, Try.ntmps29
  go_wp2_with (first | (go_at_call 65; refine hB.mono ?_; rintro e w' ⟨rfl, rfl⟩) | (go_at_call 67; refine hR.mono ?_; rintro e w' ⟨rfl, rfl⟩))
  refine bodyPost_ret (results_ctt rfl _ _ w.heap.size 25 _ _ _ rfl (heap_alloc_new w _) Try.underlying25 rfl (by kernel_rfl)) rfl ?_
  exact readpost_none rfl HB0.out
/-- What holds where a block is to be read. -/
structure RdOk (D : DM) (base end_ at_ : Int) : Prop where
  b : 0 ≤ base
  e : base ≤ end_
  n : end_ ≤ D.n
  g : D.gone = false
  a : 0 ≤ at_
theorem readE_ok {D : DM} {base end_ at_ : Int} (h : readE D base end_ at_ = 0) : RdOk D base end_ at_ := by
  unfold readE at h
  split at h
  · cases h
  · obtain ⟨a, b, c, d⟩ := regE_ok h
    exact ⟨a, b, c, d, by omega⟩
set_option maxRecDepth 100000 in
set_option maxHeartbeats 1000000 in
theorem read_outD {w : World} {ok : Nat → Prop} {p : Nat} {D : DM} (h : PDisk w ok p D) (base end_ gen at_ : Int) (he : readE D base end_ at_ = 0) (ho : end_ - base ≤ at_) :
  Calls Try.prog 29 #[.pointer (some ⟨p, 0, none⟩), .int .i64 base, .int .i64 end_, .int .u64 gen, .int .i64 at_] w (ReadPost none 0 w) := by
  have hB0 : Below w.heap.size w (w.alloc (.cells #[.int .u64 0, .int .i64 0, .int .i64 0, .slice none 0 0] 25)) := below_alloc (Below.refl _ _) _
  have h0 := h.step (w1 := w.alloc (.cells #[.int .u64 0, .int .i64 0, .int .i64 0, .slice none 0 0] 25)) (fun k _ hk => hB0.block k hk)
  have hB := blocks_any h0
  have hR := region_any h0 base end_
  have HB0 := hid hB0
  obtain ⟨r1, r2, r3, r4, r5⟩ := readE_ok he
  rw [show regE D base end_ = 0 from by unfold readE at he; rwa [if_neg (by omega)] at he] at hR
  have hn := h.1.hi
  clear hB0 he
  have n1 : ¬ base < 0 := by omega
  have n2 : ¬ end_ < base := by omega
  have n3 : ¬ (D.n : Int) < end_ := by omega
  have n4 : ¬ at_ < 0 := by omega
  have hw : IntKind.i64.wrap (end_ - base) = end_ - base := by rw [IntKind.wrap_i64]; omega
  go_enter Try.func29, Try.ntmps29
  go_wp2_with (first | (go_at_call 65; refine hB.mono ?_; rintro e w' ⟨rfl, rfl⟩) | (go_at_call 67; refine hR.mono ?_; rintro e w' ⟨rfl, rfl⟩))
  refine bodyPost_ret (results_ctt rfl _ _ w.heap.size 25 _ _ _ rfl (heap_alloc_new w _) Try.underlying25 rfl (by kernel_rfl)) rfl ?_
  exact readpost_none rfl HB0.out
end Go.Proofs.Ytekhmkfiepnnkaa
