/- seal.blocks: what it yields; its contract as an iterator. -/
import Derived.Test.YtekhmkfiepnnkaaCopy
set_option linter.unusedVariables false
set_option linter.unusedSimpArgs false
namespace Go.Proofs.Ytekhmkfiepnnkaa
open Go.RowKit Go.Shelf Go.Proofs.YtekhmkfiepnnkaaW.PrintWords Go.Proofs.YtekhmkfiepnnkaaW.PrintMore
attribute [local go_sem] Oper.semAt_some

/-- A record. -/
structure SR where
  gen : Int
  at_ : Int
  kind : Int
  bytes : List Int
/-- One that may be sealed. -/
structure SR.right (r : SR) : Prop where
  g : 0 < r.gen ∧ r.gen < 18446744073709551616
  a : 0 ≤ r.at_ ∧ r.at_ ≤ 65535
  k : 0 ≤ r.kind ∧ r.kind ≤ 255
  b : Bytes r.bytes
  l : r.bytes.length ≤ 131072
def padTo (m : Nat) (xs : List Int) : List Int := xs ++ List.replicate (m - xs.length) 0
theorem padTo_length {m : Nat} {xs : List Int} (h : xs.length ≤ m) : (padTo m xs).length = m := by simp [padTo]; omega
def headB (r : SR) : List Int := [102, 104] ++ (be r.gen 8 ++ (be r.at_ 2 ++ (r.kind :: (be r.bytes.length 4 ++ padTo 47 (r.bytes.take 47)))))
def bodyB (r : SR) (k : Nat) : List Int := [102, 98] ++ (be r.gen 8 ++ (be r.at_ 2 ++ (be k 2 ++ padTo 50 ((r.bytes.drop (47 + 50 * (k - 1))).take 50))))
theorem headB_length (r : SR) : (headB r).length = 64 := by
  simp only [headB, List.length_append, List.length_cons, List.length_nil, be_length, padTo_length (show (r.bytes.take 47).length ≤ 47 by rw [List.length_take]; omega)]
theorem bodyB_length (r : SR) (k : Nat) : (bodyB r k).length = 64 := by
  simp only [bodyB, List.length_append, List.length_cons, List.length_nil, be_length, padTo_length (show ((r.bytes.drop (47 + 50 * (k - 1))).take 50).length ≤ 50 by rw [List.length_take]; omega)]
/-- How many body blocks. -/
def bodies (r : SR) : Nat := (r.bytes.length - 47 + 49) / 50
abbrev YB := { x : Nat × List Int // x.1 ≤ 65535 ∧ x.2.length = 64 ∧ Bytes x.2 }
theorem headB_bytes {r : SR} (h : r.right) : Bytes (headB r) := by
  unfold headB
  refine Bytes.append (fun x hx => by simp at hx; omega) (Bytes.append (be_bytes _ _) (Bytes.append (be_bytes _ _) ?_))
  intro x hx
  rcases List.mem_cons.1 hx with rfl | hx
  · have := h.k; omega
  · exact Bytes.append (be_bytes _ _) (Bytes.append (h.b.take _) (Bytes.zeros _)) x hx
theorem bodyB_bytes {r : SR} (h : r.right) (k : Nat) : Bytes (bodyB r k) := by
  unfold bodyB
  exact Bytes.append (fun x hx => by simp at hx; omega) (Bytes.append (be_bytes _ _) (Bytes.append (be_bytes _ _) (Bytes.append (be_bytes _ _) (Bytes.append ((h.b.drop _).take _) (Bytes.zeros _)))))
theorem bodies_le {r : SR} (h : r.right) : bodies r ≤ 65534 := by unfold bodies; have := h.l; omega
/-- All blocks of a record. -/
def blkList (r : SR) : List (Nat × List Int) := (0, headB r) :: (List.range (bodies r)).map fun i => (i + 1, bodyB r (i + 1))
def encY (x : YB) : Array Value := #[.int .i64 x.1.1, .agg (nums .u8 x.1.2).toArray]
/-- The record's variable, as the iterator has captured it. -/
structure RBox (w : World) (rb : Nat) (r : SR) (okr : Nat → Prop) (A : Option Addr) (c : Nat) : Prop where
  ok : okr rb
  blk : w.heap[rb]? = some (.cells #[.int .u64 r.gen, .int .i64 r.at_, .int .i64 r.kind, .slice A r.bytes.length c] 25 (0, 0))
  row : RB w (fun k => okr k ∧ k ≠ rb) A r.bytes
  cap : r.bytes.length ≤ c
theorem RBox.step {w w1 : World} {rb : Nat} {r : SR} {okr : Nat → Prop} {A : Option Addr} {c : Nat} (h : RBox w rb r okr A c) (hm : ∀ k, okr k → k < w.heap.size → w1.heap[k]? = w.heap[k]?) : RBox w1 rb r okr A c :=
  ⟨h.ok, (hm rb h.ok (blk_lt h.blk)).trans h.blk, Kd.F_step h.row (fun k hk => hm k hk.1), h.cap⟩
/-- What a round keeps. -/
def KpR (okr : Nat → Prop) (W W' : World) : Prop := (∀ k, okr k → k < W.heap.size → W'.heap[k]? = W.heap[k]?) ∧ W.heap.size ≤ W'.heap.size
/-- A block that is filled from its beginning. -/
def fill (p : List Int) : List Int := p ++ List.replicate (64 - p.length) 0
theorem fill_length {p : List Int} (h : p.length ≤ 64) : (fill p).length = 64 := by simp [fill]; omega
theorem fill_splice {p vs : List Int} (h : p.length + vs.length ≤ 64) : splice (fill p) p.length vs = fill (p ++ vs) := by
  unfold splice fill
  rw [List.take_append_of_le_length (Nat.le_refl _), List.take_of_length_le (Nat.le_refl _), List.drop_append, List.drop_of_length_le (by omega), List.drop_replicate]
  simp only [List.nil_append, List.append_assoc, List.length_append]
  have e : 64 - p.length - (p.length + vs.length - p.length) = 64 - (p.length + vs.length) := by omega
  rw [e]
theorem fill_splice' {p vs : List Int} {off : Nat} (ho : p.length = off) (h : p.length + vs.length ≤ 64) : splice (fill p) off vs = fill (p ++ vs) := by
  subst ho; exact fill_splice h
theorem fill_set {p : List Int} (h : p.length < 64) (x : Int) : (fill p).set p.length x = fill (p ++ [x]) := by
  unfold fill
  obtain ⟨m, hm⟩ : ∃ m, 64 - p.length = m + 1 := ⟨63 - p.length, by omega⟩
  rw [hm, List.replicate_succ, List.set_append_right _ _ (Nat.le_refl _)]
  simp only [Nat.sub_self, List.set_cons_zero, List.append_assoc, List.length_append, List.length_cons, List.length_nil, List.singleton_append]
  have : 64 - (p.length + (0 + 1)) = m := by omega
  rw [this]
theorem fill_pad {p vs : List Int} {m : Nat} (h : p.length + m = 64) (hv : vs.length ≤ m) : fill (p ++ vs) = p ++ padTo m vs := by
  unfold fill padTo
  have e : 64 - (p ++ vs).length = m - vs.length := by rw [List.length_append]; omega
  rw [List.append_assoc, e]
theorem grown_of_below {W W' : World} (h : Below W.heap.size W W') : W.grownBy W' none := ⟨h.os, h.tape, h.output, h.size, fun k hk _ => h.block k hk⟩
set_option maxRecDepth 100000 in
set_option maxHeartbeats 4000000 in
theorem blocks_in {w : World} {rb : Nat} {r : SR} {okr : Nat → Prop} {A : Option Addr} {c : Nat} (h : RBox w rb r okr A c) (hr : r.right) (hok : ∀ k, okr k → k < w.heap.size)
    (l : Nat) (J Jx : List YB → World → Prop) (W : World) (hW : Below w.heap.size w W) (hJ : AbidesFrom W.heap.size J) (hJx : AbidesFrom W.heap.size Jx)
    (hY : ∀ pre x W1, J pre W1 → pre.length < (blkList r).length → YieldAt Fence.wide (1 - 1) Try.prog l (encY x) W1 fun e W' =>
      (e = .returned (.bool true) ∧ J (pre ++ [x]) W' ∧ KpR okr W1 W') ∨ (e = .returned (.bool false) ∧ Jx (pre ++ [x]) W')) (h0 : J [] W) :
    CallsIn Fence.wide 1 Try.prog 82 #[.func (.yield l) #[] #[], .pointer (some ⟨rb, 0, none⟩)] W fun e W' => (∃ v, e = .returned v) ∧
      ((∃ xs : List YB, xs.map (·.1) = blkList r ∧ J xs W') ∨ (∃ pre : List YB, pre.map (·.1) <+: blkList r ∧ Jx pre W')) := by
  have hb := h.step (w1 := W) (fun k hk hlt => hW.block k (hok k hk))
  refine callsIn_of_wp Try.func82 rfl trivial ?_ rfl
  simp only [Try.ntmps82, List.size_toArray, List.length_cons, List.length_nil, Nat.reduceAdd, Nat.reduceSub, Array.replicate_succ, Array.replicate_zero, List.push_toArray, List.append_toArray, List.nil_append, List.cons_append]
  have g0 : BU (W.alloc (.cells #[.int .u8 0, .int .u8 0, .int .u8 0, .int .u8 0, .int .u8 0, .int .u8 0, .int .u8 0, .int .u8 0, .int .u8 0, .int .u8 0, .int .u8 0, .int .u8 0, .int .u8 0, .int .u8 0, .int .u8 0, .int .u8 0, .int .u8 0, .int .u8 0, .int .u8 0, .int .u8 0, .int .u8 0, .int .u8 0, .int .u8 0, .int .u8 0, .int .u8 0, .int .u8 0, .int .u8 0, .int .u8 0, .int .u8 0, .int .u8 0, .int .u8 0, .int .u8 0, .int .u8 0, .int .u8 0, .int .u8 0, .int .u8 0, .int .u8 0, .int .u8 0, .int .u8 0, .int .u8 0, .int .u8 0, .int .u8 0, .int .u8 0, .int .u8 0, .int .u8 0, .int .u8 0, .int .u8 0, .int .u8 0, .int .u8 0, .int .u8 0, .int .u8 0, .int .u8 0, .int .u8 0, .int .u8 0, .int .u8 0, .int .u8 0, .int .u8 0, .int .u8 0, .int .u8 0, .int .u8 0, .int .u8 0, .int .u8 0, .int .u8 0, .int .u8 0] 111)) W.heap.size 111 (fill []) := heap_alloc_new W _
  have b0 : Below W.heap.size W (W.alloc (.cells #[.int .u8 0, .int .u8 0, .int .u8 0, .int .u8 0, .int .u8 0, .int .u8 0, .int .u8 0, .int .u8 0, .int .u8 0, .int .u8 0, .int .u8 0, .int .u8 0, .int .u8 0, .int .u8 0, .int .u8 0, .int .u8 0, .int .u8 0, .int .u8 0, .int .u8 0, .int .u8 0, .int .u8 0, .int .u8 0, .int .u8 0, .int .u8 0, .int .u8 0, .int .u8 0, .int .u8 0, .int .u8 0, .int .u8 0, .int .u8 0, .int .u8 0, .int .u8 0, .int .u8 0, .int .u8 0, .int .u8 0, .int .u8 0, .int .u8 0, .int .u8 0, .int .u8 0, .int .u8 0, .int .u8 0, .int .u8 0, .int .u8 0, .int .u8 0, .int .u8 0, .int .u8 0, .int .u8 0, .int .u8 0, .int .u8 0, .int .u8 0, .int .u8 0, .int .u8 0, .int .u8 0, .int .u8 0, .int .u8 0, .int .u8 0, .int .u8 0, .int .u8 0, .int .u8 0, .int .u8 0, .int .u8 0, .int .u8 0, .int .u8 0, .int .u8 0] 111)) := below_alloc (Below.refl _ _) _
  obtain ⟨w1, hcp, g1, c1⟩ := g0.copy_str (P := Try.prog) 22 9 3 5 0 64 64 ⟨#[102, 104]⟩ Try.underlying22 (by kernel_rfl) (by decide) (by decide)
  have e1 : splice (fill []) 0 (bytesOf ⟨#[102, 104]⟩) = fill [102, 104] := by decide
  rw [e1] at g1
  have b1 : Below W.heap.size W w1 := b0.trans (c1.below_ (B := W.heap.size) b0.size (fun k hk => by omega))
  clear g0 b0 c1 e1
  gi_wp2_with fail
  clear hcp
  have hgn : ∀ k, okr k → k ≠ W.heap.size := fun k hk e => by have := hok k hk; have := hW.size; omega
  have hb1 := hb.step (w1 := w1) (fun k hk hlt => b1.block k hlt)
  have hg64 := hr.g
  have ha64 := hr.a
  have hk8 := hr.k
  have hl4 := hr.l
  have k2 : w1.cell? ⟨rb, 0, none⟩ = some (.int .u64 r.gen) := by have := cell_of_row _ rb 0 _ _ _ hb1.blk; simpa using this
  refine wpIn_wide.2 (wp_region_plan [] (.take 0 (.take 1 (.take 2 (.run 3 .done)))) (fun w' => w'.cell? ⟨rb, 0, none⟩ = some (.int .u64 r.gen)) (by kernel_rfl) (by kernel_rfl) (fun c a d v w h => by cases d <;> exact h) k2 ?_)
  iterate 3 (apply plan_take rfl rfl; (case hy => (intro w' hS; have s0 := hS; clear hS; go_simp; try exact rfl)); go_simp)
  refine plan_run_on rfl rfl (fun K hK => ?_)
  go_simp
  refine (put_any (n := r.gen) (off := 2) (m := 8) (c := 62) ⟨by omega, by omega⟩ (g1.step (w1 := w1.drew) rfl) (by rw [fill_length (by simp [be_length])]; omega) (by omega)).mono ?_
  rintro e w2 ⟨rfl, g2, c2⟩
  have q2 := fill_splice' (p := [102, 104]) (vs := be (r.gen) 8) (off := 2) (by simp [be_length]) (by simp [be_length])
  rw [q2] at g2
  have b2 : Below W.heap.size W w2 := (below_drew b1).trans (c2.below_ (B := W.heap.size) b1.size (fun k hk => by omega))
  have hb2 := hb1.step (w1 := w2) (fun k hk hlt => c2.block k hlt (hgn k hk))
  have kk2 : w2.cell? ⟨rb, 0, none⟩ = some (.int .u64 r.gen) := by have := cell_of_row _ rb 0 _ _ _ hb2.blk; simpa using this
  refine hK _ _ _ (fun _ h => h) kk2 ?_
  clear hK K
  refine plan_done ?_
  clear q2 c2 g1 k2 kk2
  gi_wp2_with fail
  have k3 : w2.cell? ⟨rb, 1, none⟩ = some (.int .i64 r.at_) := by have := cell_of_row _ rb 1 _ _ _ hb2.blk; simpa using this
  have ua : IntKind.u64.wrap r.at_ = r.at_ := by rw [wrap_u64_mod]; omega
  refine wpIn_wide.2 (wp_region_plan [] (.take 0 (.take 1 (.take 2 (.take 3 (.run 4 .done))))) (fun w' => w'.cell? ⟨rb, 1, none⟩ = some (.int .i64 r.at_)) (by kernel_rfl) (by kernel_rfl) (fun c a d v w h => by cases d <;> exact h) k3 ?_)
  iterate 4 (apply plan_take rfl rfl; (case hy => (intro w' hS; have s0 := hS; clear hS; go_simp; try exact rfl)); go_simp)
  refine plan_run_on rfl rfl (fun K hK => ?_)
  go_simp
  refine (put_any (n := r.at_) (off := 10) (m := 2) (c := 54) ⟨by omega, by omega⟩ (g2.step (w1 := w2.drew) rfl) (by rw [fill_length (by simp [be_length])]; omega) (by omega)).mono ?_
  rintro e w3 ⟨rfl, g3, c3⟩
  have q3 := fill_splice' (p := [102, 104] ++ be r.gen 8) (vs := be (r.at_) 2) (off := 10) (by simp [be_length]) (by simp [be_length])
  rw [q3] at g3
  have b3 : Below W.heap.size W w3 := (below_drew b2).trans (c3.below_ (B := W.heap.size) b2.size (fun k hk => by omega))
  have hb3 := hb2.step (w1 := w3) (fun k hk hlt => c3.block k hlt (hgn k hk))
  have kk3 : w3.cell? ⟨rb, 1, none⟩ = some (.int .i64 r.at_) := by have := cell_of_row _ rb 1 _ _ _ hb3.blk; simpa using this
  refine hK _ _ _ (fun _ h => h) kk3 ?_
  clear hK K
  refine plan_done ?_
  clear q3 c3 g2 k3 kk3
  have k4 : w3.cell? ⟨rb, 2, none⟩ = some (.int .i64 r.kind) := by have := cell_of_row _ rb 2 _ _ _ hb3.blk; simpa using this
  have uk : IntKind.u8.wrap r.kind = r.kind := by rw [IntKind.wrap_u8]; omega
  obtain ⟨z, kz⟩ : ∃ z, w3.cell? ⟨W.heap.size, 12, none⟩ = some (.int .u8 z) := ⟨_, g3.cell (k := 12) (by rw [fill_length (by simp [be_length])]; omega)⟩
  have kf := g3.free 12
  gi_wp2_with fail
  have g4 : BU (w3.setCell ⟨W.heap.size, 12, none⟩ (.int .u8 r.kind)) W.heap.size 111 (fill ([102, 104] ++ be r.gen 8 ++ be r.at_ 2 ++ [r.kind])) := by
    have := g3.set 12 r.kind
    have q := fill_set (p := [102, 104] ++ be r.gen 8 ++ be r.at_ 2) (by simp [be_length]) r.kind
    rw [show ([102, 104] ++ be r.gen 8 ++ be r.at_ 2 : List Int).length = 12 from by simp [be_length]] at q
    rwa [q] at this
  have c4 : Chg (fun k => k = W.heap.size) w3 (w3.setCell ⟨W.heap.size, 12, none⟩ (.int .u8 r.kind)) := Chg.setCell (S := fun k => k = W.heap.size) (p := ⟨W.heap.size, 12, none⟩) (Chg.refl _ _) (.inl rfl) _
  generalize w3.setCell ⟨W.heap.size, 12, none⟩ (.int .u8 r.kind) = w4 at g4 c4 ⊢
  have b4 : Below W.heap.size W w4 := b3.trans (c4.below_ (B := W.heap.size) b3.size (fun k hk => by omega))
  have hb4 := hb3.step (w1 := w4) (fun k hk hlt => c4.block k hlt (hgn k hk))
  clear c4 g3 k4 kz kf
  have k5 : w4.cell? ⟨rb, 3, none⟩ = some (.slice A r.bytes.length c) := by have := cell_of_row _ rb 3 _ _ _ hb4.blk; simpa using this
  have ul : IntKind.u64.wrap (r.bytes.length : Int) = (r.bytes.length : Int) := by rw [wrap_u64_mod]; omega
  refine wpIn_wide.2 (wp_region_plan [] (.take 0 (.take 1 (.take 2 (.take 3 (.take 4 (.run 5 .done)))))) (fun w' => w'.cell? ⟨rb, 3, none⟩ = some (.slice A r.bytes.length c)) (by kernel_rfl) (by kernel_rfl) (fun c a d v w h => by cases d <;> exact h) k5 ?_)
  iterate 5 (apply plan_take rfl rfl; (case hy => (intro w' hS; have s0 := hS; clear hS; go_simp; try exact rfl)); go_simp)
  refine plan_run_on rfl rfl (fun K hK => ?_)
  go_simp
  refine (put_any (n := (r.bytes.length : Int)) (off := 13) (m := 4) (c := 51) ⟨by omega, by omega⟩ (g4.step (w1 := w4.drew) rfl) (by rw [fill_length (by simp [be_length])]; omega) (by omega)).mono ?_
  rintro e w5 ⟨rfl, g5, c5⟩
  have q5 := fill_splice' (p := [102, 104] ++ be r.gen 8 ++ be r.at_ 2 ++ [r.kind]) (vs := be ((r.bytes.length : Int)) 4) (off := 13) (by simp [be_length]) (by simp [be_length])
  rw [q5] at g5
  have b5 : Below W.heap.size W w5 := (below_drew b4).trans (c5.below_ (B := W.heap.size) b4.size (fun k hk => by omega))
  have hb5 := hb4.step (w1 := w5) (fun k hk hlt => c5.block k hlt (hgn k hk))
  have kk5 : w5.cell? ⟨rb, 3, none⟩ = some (.slice A r.bytes.length c) := by have := cell_of_row _ rb 3 _ _ _ hb5.blk; simpa using this
  refine hK _ _ _ (fun _ h => h) kk5 ?_
  clear hK K
  refine plan_done ?_
  clear q5 c5 g4 k5 kk5
  have k6 : w5.cell? ⟨rb, 3, none⟩ = some (.slice A r.bytes.length c) := by have := cell_of_row _ rb 3 _ _ _ hb5.blk; simpa using this
  obtain ⟨w6, hcp, g6, c6⟩ := (g5.step (w1 := w5.drew) rfl).copy_row (P := Try.prog) 22 22 3 5 17 47 47 c (Kd.F_now ((Kd.F_step (W1 := w5.drew) hb5.row (fun _ _ _ => rfl)))) Try.underlying22 (by kernel_rfl) (by rw [fill_length (by simp [be_length])]; omega)
  have q6 := fill_splice' (p := [102, 104] ++ be r.gen 8 ++ be r.at_ 2 ++ [r.kind] ++ be r.bytes.length 4) (vs := r.bytes.take 47) (off := 17) (by simp [be_length]) (by simp [be_length]; omega)
  rw [q6] at g6
  gi_wp2_with fail
  refine wpIn_wide.2 (wp_region_plan [] (.take 0 (.take 1 (.take 2 (.run 3 (.take 4 .done))))) (fun w' => w'.cell? ⟨rb, 3, none⟩ = some (.slice A r.bytes.length c)) (by kernel_rfl) (by kernel_rfl) (fun c a d v w h => by cases d <;> exact h) k6 ?_)
  iterate 3 (apply plan_take rfl rfl; (case hy => (intro w' hS; have s0 := hS; clear hS; go_simp; try exact rfl)); go_simp)
  refine plan_run_on rfl rfl (fun K hK => ?_)
  go_simp
  have b6 : Below W.heap.size W w6 := (below_drew b5).trans (c6.below_ (B := W.heap.size) b5.size (fun k hk => by omega))
  have hb6 := hb5.step (w1 := w6) (fun k hk hlt => c6.block k hlt (hgn k hk))
  have kk6 : w6.cell? ⟨rb, 3, none⟩ = some (.slice A r.bytes.length c) := by have := cell_of_row _ rb 3 _ _ _ hb6.blk; simpa using this
  refine hK _ _ _ (fun _ h => h) kk6 ?_
  clear hK K
  apply plan_take rfl rfl
  case hy => (intro w' hS; clear hS; go_simp; try exact rfl)
  go_simp
  refine plan_done ?_
  have hh : fill ([102, 104] ++ be r.gen 8 ++ be r.at_ 2 ++ [r.kind] ++ be r.bytes.length 4 ++ r.bytes.take 47) = headB r := by
    rw [fill_pad (m := 47) (by simp [be_length]) (by rw [List.length_take]; omega)]
    simp [headB]
  rw [hh] at g6
  clear hcp q6 c6 g5 k6 hh
  have hJ6 : J [] w6 := hJ [] W w6 none h0 (grown_of_below b6) (fun _ e => by cases e)
  obtain ⟨fn, tmps, assign, body, hy, hR⟩ := hY [] ⟨(0, headB r), by simp, headB_length r, headB_bytes hr⟩ w6 hJ6 (by simp [blkList])
  dsimp only [encY] at hy
  rw [show (((0 : Nat) : Int)) = 0 from rfl] at hy
  gi_wp2_with (refine wpListIn_load_addr rfl rfl 111 (.tmp 3) rfl ⟨W.heap.size, 0, none⟩ rfl (nums .u8 (headB r)) _ g6.load Try.underlying111 rfl (by rw [nums_length, headB_length]; kernel_rfl) ?_)
  gi_wp2_with fail
  refine hR.mono ?_
  rintro e W7 (⟨rfl, hJ7, hk7⟩ | ⟨rfl, hJx7⟩)
  · have hb7 := hb6.step (w1 := W7) (fun k hk hlt => hk7.1 k hk hlt)
    have s7 : W.heap.size ≤ W7.heap.size := Nat.le_trans b6.size hk7.2
    have hmin : min r.bytes.length 47 = min r.bytes.length (47 + 50 * 0) := rfl
    clear hR hy g6 b6 hb6 hb5 hb4 hb3 hb2 hb1 b5 b4 b3 b2 b1 kk6 hk7
    gi_wp2_with fail
    gi_loopw [4, 5] (fun nv kv wr => ∃ (i : Nat) (pre : List YB), i ≤ bodies r ∧ kv = .int .i64 ((i : Int) + 1) ∧ nv = .int .i64 ((min r.bytes.length (47 + 50 * i) : Nat) : Int) ∧ pre.map (·.1) = (blkList r).take (i + 1) ∧ J pre wr ∧ RBox wr rb r okr A c ∧ W.heap.size ≤ wr.heap.size) (fun _ kv _ => (bodies r + 1 : Nat) - (intOf kv).toNat)
    case atStart => exact ⟨0, [⟨(0, headB r), by simp, headB_length r, headB_bytes hr⟩], Nat.zero_le _, rfl, rfl, rfl, hJ7, hb7, s7⟩
    case round =>
      obtain ⟨i, pre, hi, rfl, rfl, hpre, hJr, hbr, sr⟩ := hrel
      by_cases hlt : i < bodies r
      · have hib : i + 1 ≤ 65534 := Nat.le_trans hlt (bodies_le hr)
        obtain ⟨n0, hn0⟩ : ∃ n0, n0 = 47 + 50 * i := ⟨_, rfl⟩
        have hn : min r.bytes.length (47 + 50 * i) = n0 ∧ n0 < r.bytes.length := by unfold bodies at hlt; omega
        rw [hn.1]
        have hn2 := hn.2
        have hlt' : (n0 : Int) < (r.bytes.length : Int) := by omega
        have HN0 := hid hn0
        clear hn0
        have hgn : ∀ k, okr k → k ≠ wr.heap.size := fun k hk e => by have := hok k hk; have := hW.size; omega
        have kl : wr.cell? ⟨rb, 3, none⟩ = some (.slice A r.bytes.length c) := by have := cell_of_row _ rb 3 _ _ _ hbr.blk; simpa using this
        have g0 : BU (wr.alloc (.cells #[.int .u8 0, .int .u8 0, .int .u8 0, .int .u8 0, .int .u8 0, .int .u8 0, .int .u8 0, .int .u8 0, .int .u8 0, .int .u8 0, .int .u8 0, .int .u8 0, .int .u8 0, .int .u8 0, .int .u8 0, .int .u8 0, .int .u8 0, .int .u8 0, .int .u8 0, .int .u8 0, .int .u8 0, .int .u8 0, .int .u8 0, .int .u8 0, .int .u8 0, .int .u8 0, .int .u8 0, .int .u8 0, .int .u8 0, .int .u8 0, .int .u8 0, .int .u8 0, .int .u8 0, .int .u8 0, .int .u8 0, .int .u8 0, .int .u8 0, .int .u8 0, .int .u8 0, .int .u8 0, .int .u8 0, .int .u8 0, .int .u8 0, .int .u8 0, .int .u8 0, .int .u8 0, .int .u8 0, .int .u8 0, .int .u8 0, .int .u8 0, .int .u8 0, .int .u8 0, .int .u8 0, .int .u8 0, .int .u8 0, .int .u8 0, .int .u8 0, .int .u8 0, .int .u8 0, .int .u8 0, .int .u8 0, .int .u8 0, .int .u8 0, .int .u8 0] 111)) wr.heap.size 111 (fill []) := heap_alloc_new wr _
        have b0 : Below wr.heap.size wr (wr.alloc (.cells #[.int .u8 0, .int .u8 0, .int .u8 0, .int .u8 0, .int .u8 0, .int .u8 0, .int .u8 0, .int .u8 0, .int .u8 0, .int .u8 0, .int .u8 0, .int .u8 0, .int .u8 0, .int .u8 0, .int .u8 0, .int .u8 0, .int .u8 0, .int .u8 0, .int .u8 0, .int .u8 0, .int .u8 0, .int .u8 0, .int .u8 0, .int .u8 0, .int .u8 0, .int .u8 0, .int .u8 0, .int .u8 0, .int .u8 0, .int .u8 0, .int .u8 0, .int .u8 0, .int .u8 0, .int .u8 0, .int .u8 0, .int .u8 0, .int .u8 0, .int .u8 0, .int .u8 0, .int .u8 0, .int .u8 0, .int .u8 0, .int .u8 0, .int .u8 0, .int .u8 0, .int .u8 0, .int .u8 0, .int .u8 0, .int .u8 0, .int .u8 0, .int .u8 0, .int .u8 0, .int .u8 0, .int .u8 0, .int .u8 0, .int .u8 0, .int .u8 0, .int .u8 0, .int .u8 0, .int .u8 0, .int .u8 0, .int .u8 0, .int .u8 0, .int .u8 0] 111)) := below_alloc (Below.refl _ _) _
        obtain ⟨w11, hcp, g11, c11⟩ := g0.copy_str (P := Try.prog) 22 9 3 5 0 64 64 ⟨#[102, 98]⟩ Try.underlying22 (by kernel_rfl) (by decide) (by decide)
        have e1 : splice (fill []) 0 (bytesOf ⟨#[102, 98]⟩) = fill [102, 98] := by decide
        rw [e1] at g11
        have b11 : Below wr.heap.size wr w11 := b0.trans (c11.below_ (B := wr.heap.size) b0.size (fun k hk => by omega))
        have hb11 := hbr.step (w1 := w11) (fun k hk hlt => b11.block k hlt)
        clear g0 b0 c11 e1
        gi_wp2_with fail
        clear hcp
        have k12 : w11.cell? ⟨rb, 0, none⟩ = some (.int .u64 r.gen) := by have := cell_of_row _ rb 0 _ _ _ hb11.blk; simpa using this
        refine wpIn_wide.2 (wp_region_plan [] (.take 0 (.take 1 (.take 2 (.run 3 .done)))) (fun w' => w'.cell? ⟨rb, 0, none⟩ = some (.int .u64 r.gen)) (by kernel_rfl) (by kernel_rfl) (fun c a d v w h => by cases d <;> exact h) k12 ?_)
        iterate 3 (apply plan_take rfl rfl; (case hy => (intro w' hS; have s0 := hS; clear hS; go_simp; try exact rfl)); go_simp)
        refine plan_run_on rfl rfl (fun K hK => ?_)
        go_simp
        refine (put_any (n := r.gen) (off := 2) (m := 8) (c := 62) ⟨by omega, by omega⟩ (g11.step (w1 := w11.drew) rfl) (by rw [fill_length (by simp [be_length])]; omega) (by omega)).mono ?_
        rintro e w12 ⟨rfl, g12, c12⟩
        have q12 := fill_splice' (p := [102, 98]) (vs := be (r.gen) 8) (off := 2) (by simp [be_length]) (by simp [be_length])
        rw [q12] at g12
        have b12 : Below wr.heap.size wr w12 := (below_drew b11).trans (c12.below_ (B := wr.heap.size) b11.size (fun k hk => by omega))
        have hb12 := hb11.step (w1 := w12) (fun k hk hlt => c12.block k hlt (hgn k hk))
        have kk12 : w12.cell? ⟨rb, 0, none⟩ = some (.int .u64 r.gen) := by have := cell_of_row _ rb 0 _ _ _ hb12.blk; simpa using this
        refine hK _ _ _ (fun _ h => h) kk12 ?_
        clear hK K
        refine plan_done ?_
        clear q12 c12 g11 k12 kk12
        gi_wp2_with fail
        have k13 : w12.cell? ⟨rb, 1, none⟩ = some (.int .i64 r.at_) := by have := cell_of_row _ rb 1 _ _ _ hb12.blk; simpa using this
        refine wpIn_wide.2 (wp_region_plan [] (.take 0 (.take 1 (.take 2 (.take 3 (.run 4 .done))))) (fun w' => w'.cell? ⟨rb, 1, none⟩ = some (.int .i64 r.at_)) (by kernel_rfl) (by kernel_rfl) (fun c a d v w h => by cases d <;> exact h) k13 ?_)
        iterate 4 (apply plan_take rfl rfl; (case hy => (intro w' hS; have s0 := hS; clear hS; go_simp; try exact rfl)); go_simp)
        refine plan_run_on rfl rfl (fun K hK => ?_)
        go_simp
        refine (put_any (n := r.at_) (off := 10) (m := 2) (c := 54) ⟨by omega, by omega⟩ (g12.step (w1 := w12.drew) rfl) (by rw [fill_length (by simp [be_length])]; omega) (by omega)).mono ?_
        rintro e w13 ⟨rfl, g13, c13⟩
        have q13 := fill_splice' (p := [102, 98] ++ be r.gen 8) (vs := be (r.at_) 2) (off := 10) (by simp [be_length]) (by simp [be_length])
        rw [q13] at g13
        have b13 : Below wr.heap.size wr w13 := (below_drew b12).trans (c13.below_ (B := wr.heap.size) b12.size (fun k hk => by omega))
        have hb13 := hb12.step (w1 := w13) (fun k hk hlt => c13.block k hlt (hgn k hk))
        have kk13 : w13.cell? ⟨rb, 1, none⟩ = some (.int .i64 r.at_) := by have := cell_of_row _ rb 1 _ _ _ hb13.blk; simpa using this
        refine hK _ _ _ (fun _ h => h) kk13 ?_
        clear hK K
        refine plan_done ?_
        clear q13 c13 g12 k13 kk13
        have uk2 : IntKind.u64.wrap ((i : Int) + 1) = (i : Int) + 1 := by rw [wrap_u64_mod]; omega
        gi_wp2_with fail
        refine ⟨trivial, callsIn_wide.2 ((put_any (n := (i : Int) + 1) (off := 12) (m := 2) (c := 52) ⟨by omega, by omega⟩ g13 (by rw [fill_length (by simp [be_length])]; omega) (by omega)).mono ?_)⟩
        rintro e w14 ⟨rfl, g14, c14⟩
        have q14 := fill_splice' (p := [102, 98] ++ be r.gen 8 ++ be r.at_ 2) (vs := be ((i : Int) + 1) 2) (off := 12) (by simp [be_length]) (by simp [be_length])
        rw [q14] at g14
        have b14 : Below wr.heap.size wr w14 := b13.trans (c14.below_ (B := wr.heap.size) b13.size (fun k hk => by omega))
        have hb14 := hb13.step (w1 := w14) (fun k hk hlt => c14.block k hlt (hgn k hk))
        clear q14 c14 g13
        have k14 : w14.cell? ⟨rb, 3, none⟩ = some (.slice A r.bytes.length c) := by have := cell_of_row _ rb 3 _ _ _ hb14.blk; simpa using this
        have hcap := hbr.cap
        have hne : ¬ c = n0 := by omega
        have hdl : (r.bytes.drop (n0)).length = r.bytes.length - (n0) := by rw [List.length_drop]
        have hlc : n0 ≤ r.bytes.length := by omega
        obtain ⟨w15, hcp, g15, c15⟩ := (g14.step (w1 := w14.drew) rfl).copy_row (P := Try.prog) 22 22 3 5 14 50 50 (c - (n0)) (Kd.F_now (RB_drop (Kd.F_step (W1 := w14.drew) hb14.row (fun _ _ _ => rfl)) hlc hcap)) Try.underlying22 (by kernel_rfl) (by rw [fill_length (by simp [be_length])]; omega)
        rw [hdl, show behind A (n0) c = A.map (·.add (n0)) from if_neg hne] at hcp
        have q15 := fill_splice' (p := [102, 98] ++ be r.gen 8 ++ be r.at_ 2 ++ be ((i : Int) + 1) 2) (vs := (r.bytes.drop (n0)).take 50) (off := 14) (by simp [be_length]) (by simp [be_length]; omega)
        rw [q15] at g15
        gi_wp2_with fail
        refine wpIn_wide.2 (wp_region_plan [] (.take 0 (.take 1 (.take 2 (.take 3 (.take 4 (.take 5 (.run 6 (.take 7 (.take 8 .done))))))))) (fun w' => w'.cell? ⟨rb, 3, none⟩ = some (.slice A r.bytes.length c)) (by kernel_rfl) (by kernel_rfl) (fun c a d v w h => by cases d <;> exact h) k14 ?_)
        iterate 5 (apply plan_take rfl rfl; (case hy => (intro w' hS; have s0 := hS; clear hS; go_simp; try exact rfl)); go_simp)
        apply plan_take rfl rfl
        case hy => (intro w' hS; have s0 := hS; clear hS; have h1 : (n0 : Int) ≤ (r.bytes.length : Int) := (by omega); go_simp; try exact rfl)
        go_simp
        refine plan_run_on rfl rfl (fun K hK => ?_)
        go_simp
        have b15 : Below wr.heap.size wr w15 := (below_drew b14).trans (c15.below_ (B := wr.heap.size) b14.size (fun k hk => by omega))
        have hb15 := hb14.step (w1 := w15) (fun k hk hlt => c15.block k hlt (hgn k hk))
        have kk15 : w15.cell? ⟨rb, 3, none⟩ = some (.slice A r.bytes.length c) := by have := cell_of_row _ rb 3 _ _ _ hb15.blk; simpa using this
        refine hK _ _ _ (fun _ h => h) kk15 ?_
        clear hK K
        iterate 2 (apply plan_take rfl rfl; (case hy => (intro w' hS; clear hS; go_simp; try exact rfl)); go_simp)
        refine plan_done ?_
        have hh : fill ([102, 98] ++ be r.gen 8 ++ be r.at_ 2 ++ be ((i : Int) + 1) 2 ++ (r.bytes.drop n0).take 50) = bodyB r (i + 1) := by
          rw [fill_pad (m := 50) (by simp [be_length]) (by rw [List.length_take]; omega), HN0.out]
          simp [bodyB]
        rw [hh] at g15
        clear hcp q15 c15 g14 k14 hh
        have hpl : pre.length = i + 1 := by have := congrArg List.length hpre; simp [blkList] at this; omega
        have hJ15 : J pre w15 := hJ pre wr w15 none hJr (grown_of_below b15) (fun _ e => by cases e)
        obtain ⟨fn, tmps, assign, body, hy, hR⟩ := hY pre ⟨(i + 1, bodyB r (i + 1)), by omega, bodyB_length r _, bodyB_bytes hr _⟩ w15 hJ15 (by simp [blkList]; omega)
        dsimp only [encY] at hy
        rw [show (((i + 1 : Nat) : Int)) = (i : Int) + 1 from by omega] at hy
        have hpre2 : (pre ++ [(⟨(i + 1, bodyB r (i + 1)), by omega, bodyB_length r _, bodyB_bytes hr _⟩ : YB)]).map (·.1) = (blkList r).take (i + 2) := by
          rw [List.map_append, hpre, List.take_succ_eq_append_getElem (i := i + 1) (by simp [blkList]; omega)]
          simp [blkList]
        gi_wp2_with (refine wpListIn_load_addr rfl rfl 111 (.tmp 6) rfl ⟨wr.heap.size, 0, none⟩ rfl (nums .u8 (bodyB r (i + 1))) _ g15.load Try.underlying111 rfl (by rw [nums_length, bodyB_length]; kernel_rfl) ?_)
        gi_wp2_with fail
        refine hR.mono ?_
        rintro e W8 (⟨rfl, hJ8, hk8⟩ | ⟨rfl, hJx8⟩)
        · have hb8 := hb15.step (w1 := W8) (fun k hk hlt => hk8.1 k hk hlt)
          have s8 : W.heap.size ≤ W8.heap.size := Nat.le_trans sr (Nat.le_trans b15.size hk8.2)
          have hmin3 : (n0 : Int) + ((min (r.bytes.length - n0) 50 : Nat) : Int) = ((min r.bytes.length (47 + 50 * (i + 1)) : Nat) : Int) := by have := HN0.out; omega
          clear hR hy g15 b15 hb15 hb14 hb13 hb12 hb11 b14 b13 b12 b11 kk15 hk8
          gi_wp2_with fail
          go_roundw
          case rel => exact ⟨i + 1, _, hlt, by simp, rfl, hpre2, hJ8, hb8, s8⟩
          case measure => simp only [intOf]; omega
        · gi_wp2_with fail
          refine bodyPost_ret (results_none rfl _ _ _) rfl ?_
          exact ⟨⟨_, rfl⟩, .inr ⟨_, by rw [hpre2]; exact List.take_prefix _ _, hJx8⟩⟩
      · have hib : i = bodies r := by omega
        have hn : min r.bytes.length (47 + 50 * i) = r.bytes.length := by unfold bodies at hib; omega
        rw [hn]
        have kl : wr.cell? ⟨rb, 3, none⟩ = some (.slice A r.bytes.length c) := by have := cell_of_row _ rb 3 _ _ _ hbr.blk; simpa using this
        gi_wp2_with fail
        go_end0
        exact ⟨⟨_, rfl⟩, .inl ⟨pre, by rw [hpre, hib]; exact List.take_of_length_le (by simp [blkList]), hJr⟩⟩
  · gi_wp2
    refine bodyPost_ret (results_none rfl _ _ _) rfl ?_
    exact ⟨⟨_, rfl⟩, .inr ⟨[⟨(0, headB r), by simp, headB_length r, headB_bytes hr⟩], ⟨(List.range (bodies r)).map fun i => (i + 1, bodyB r (i + 1)), rfl⟩, hJx7⟩⟩
end Go.Proofs.Ytekhmkfiepnnkaa
