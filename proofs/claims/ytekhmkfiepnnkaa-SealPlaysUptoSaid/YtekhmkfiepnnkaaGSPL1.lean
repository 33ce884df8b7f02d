/- PROVED: SealPlays answers true, and leaves what it was given as it was; where what it reads is of bulk at most 1048576. -/
import Derived.Test.YtekhmkfiepnnkaaRows
import Derived.WalkKit
import Derived.ProofKit
import Derived.OpenShut
import Derived.ShutString
import Derived.ChangeOld
import Derived.Below
import Derived.SizedLaws
import Derived.JoinedCond
import Derived.Deep.CondSized
import Derived.Test.YtekhmkfiepnnkaaGSG
import Derived.Test.YtekhmkfiepnnkaaGSB

/- Package foundrylaw22: one operation on both disks (of SealPlays). -/
set_option linter.unusedVariables false
set_option linter.unusedSimpArgs false
namespace Go.Proofs.Ytekhmkfiepnnkaa
open Go.RowKit Go.Proofs.YtekhmkfiepnnkaaW.PrintWords Go.Proofs.YtekhmkfiepnnkaaW.PrintMore

theorem rsread_any {w : World} {ok : Nat → Prop} {p : Nat} {D : DM} (h : RDisk w ok p D) (base end_ gen at_ : Int) :
  Calls Try.prog 71 #[.pointer (some ⟨p, 0, none⟩), .int .i64 base, .int .i64 end_, .int .u64 gen, .int .i64 at_] w (ReadPost (readV D base end_ gen at_) (readE D base end_ at_) w) := by
  by_cases he : readE D base end_ at_ = 0
  · by_cases ho : end_ - base ≤ at_
    · rw [show readV D base end_ gen at_ = none from by unfold readV; rw [if_neg (fun hh => by have := hh.2.1; omega)], he]
      exact rread_outD h base end_ gen at_ he ho
    · obtain ⟨h1, h2, h3, h4, h5⟩ := readE_ok he
      rw [he]
      obtain ⟨b, rfl⟩ := Int.eq_ofNat_of_zero_le h1
      obtain ⟨a, rfl⟩ := Int.eq_ofNat_of_zero_le h5
      obtain ⟨e, rfl⟩ := Int.eq_ofNat_of_zero_le (Int.le_trans h1 h2)
      exact rread_inD h b a e gen h4 (by omega) (by omega)
  · rw [readV_E he]
    exact rread_errD h base end_ gen at_ he
/-- Both disks, made since B, alike. -/
def Both (B : Nat) (w : World) (p q : Nat) (D : DM) : Prop :=
  ∃ okd okt : Nat → Prop, PDisk w okd p D ∧ RDisk w okt q D ∧ apart okd okt ∧ (∀ k, okd k → B ≤ k ∧ k < w.heap.size) ∧ (∀ k, okt k → B ≤ k ∧ k < w.heap.size)
theorem Both.below {B : Nat} {w w1 : World} {p q : Nat} {D : DM} (h : Both B w p q D) (hb : Below w.heap.size w w1) : Both B w1 p q D := by
  obtain ⟨okd, okt, hd, ht, ha, h1, h2⟩ := h
  have := hb.size
  exact ⟨okd, okt, hd.step (fun k _ hk => hb.block k hk), ht.step (fun k _ hk => hb.block k hk), ha, fun k hk => ⟨(h1 k hk).1, by have := (h1 k hk).2; omega⟩, fun k hk => ⟨(h2 k hk).1, by have := (h2 k hk).2; omega⟩⟩
structure OP22 where
  kind : Int
  base : Int
  end_ : Int
  at_ : Int
  gen : Int
  r : SR
structure OP22.ok (o : OP22) : Prop where
  k : -9223372036854775808 ≤ o.kind ∧ o.kind ≤ 9223372036854775807
  b : -9223372036854775808 ≤ o.base ∧ o.base ≤ 9223372036854775807
  e : -9223372036854775808 ≤ o.end_ ∧ o.end_ ≤ 9223372036854775807
  a : -9223372036854775808 ≤ o.at_ ∧ o.at_ ≤ 9223372036854775807
  g : 0 ≤ o.gen ∧ o.gen < 18446744073709551616
  r : o.r.ok
abbrev opArr (o : OP22) (A : Option Addr) (c : Nat) : Array Value := #[.int .i64 o.kind, .int .i64 o.base, .int .i64 o.end_, .int .i64 o.at_, .int .u64 o.gen, .int .u64 o.r.gen, .int .i64 o.r.at_, .int .i64 o.r.kind, .slice A o.r.bytes.length c]
/-- The copy of the Op, in its own block. -/
structure Bx (w : World) (b : Nat) (o : OP22) (A : Option Addr) (c : Nat) : Prop where
  blk : w.heap[b]? = some (.cells (opArr o A c) 65 (0, 0))
namespace Bx
variable {w w1 : World} {b : Nat} {o : OP22} {A : Option Addr} {c : Nat}
theorem c0 (h : Bx w b o A c) : w.cell? ⟨b, 0, none⟩ = some (.int .i64 o.kind) := by have := cell_of_row _ _ 0 _ _ _ h.blk; simpa using this
theorem c1 (h : Bx w b o A c) : w.cell? ⟨b, 1, none⟩ = some (.int .i64 o.base) := by have := cell_of_row _ _ 1 _ _ _ h.blk; simpa using this
theorem c2 (h : Bx w b o A c) : w.cell? ⟨b, 2, none⟩ = some (.int .i64 o.end_) := by have := cell_of_row _ _ 2 _ _ _ h.blk; simpa using this
theorem c3 (h : Bx w b o A c) : w.cell? ⟨b, 3, none⟩ = some (.int .i64 o.at_) := by have := cell_of_row _ _ 3 _ _ _ h.blk; simpa using this
theorem c4 (h : Bx w b o A c) : w.cell? ⟨b, 4, none⟩ = some (.int .u64 o.gen) := by have := cell_of_row _ _ 4 _ _ _ h.blk; simpa using this
theorem c8 (h : Bx w b o A c) : w.cell? ⟨b, 8, none⟩ = some (.slice A o.r.bytes.length c) := by have := cell_of_row _ _ 8 _ _ _ h.blk; simpa using this
theorem rec_ (h : Bx w b o A c) : ∀ j v, ([.int .u64 o.r.gen, .int .i64 o.r.at_, .int .i64 o.r.kind, .slice A o.r.bytes.length c] : List Value)[j]? = some v → w.cell? ((⟨b, 5, none⟩ : Addr).add j) = some v := by
  intro j v hj
  have e : (⟨b, 5, none⟩ : Addr).add j = ⟨b, 5 + j, none⟩ := by unfold Addr.add; by_cases hj0 : j = 0 <;> simp [hj0]
  rw [e, cell_of_row _ _ (5 + j) _ _ _ h.blk]
  rcases j with _ | _ | _ | _ | j
  · simpa using hj
  · simpa using hj
  · simpa using hj
  · simpa using hj
  · simp at hj
theorem step (h : Bx w b o A c) {S : Nat → Prop} (hc : Chg S w w1) (hn : ¬ S b) : Bx w1 b o A c := ⟨hc.old h.blk hn⟩
theorem below (h : Bx w b o A c) (hb : Below w.heap.size w w1) : Bx w1 b o A c := ⟨(hb.block _ (blk_lt h.blk)).trans h.blk⟩
end Bx
theorem bx_new (w : World) (o : OP22) (A : Option Addr) (c : Nat) : Bx (w.alloc (.cells (opArr o A c) 65)) w.heap.size o A c := ⟨heap_alloc_new w _⟩
/-- What is asked of an answer. -/
def OneOut (B : Nat) (w : World) (p q : Nat) (D : DM) (e : Ending) (w' : World) : Prop := e = .returned (.bool true) ∧ (∃ D', Both B w' p q D' ∧ D'.ws.length ≤ D.ws.length + 65536) ∧ Below B w w'
theorem OneOut.same {B : Nat} {w w' : World} {p q : Nat} {D : DM} (hb : Both B w p q D) (hB : B ≤ w.heap.size) (h : Below w.heap.size w w') : OneOut B w p q D (.returned (.bool true)) w' := ⟨rfl, ⟨D, hb.below h, by omega⟩, h.mono hB⟩
theorem sealW_ws (D : DM) (base : Int) {r : SR} (hg : 0 ≤ r.gen ∧ r.gen < 18446744073709551616) (hb : Bytes r.bytes) : (D.sealW base r).1.ws.length ≤ D.ws.length + 65536 := by
  unfold DM.sealW
  by_cases he : sealE r = 0
  · rw [if_neg (by simp [he])]
    split
    · show D.ws.length ≤ _; omega
    · have h1 := puts_ws (base + r.at_) (order r) D
      rw [order_len] at h1
      have h2 := bodies_le (right_of he hg hb)
      omega
  · rw [if_pos he]
    show D.ws.length ≤ _; omega
set_option maxRecDepth 100000 in
set_option maxHeartbeats 4000000 in
theorem one0 {B : Nat} {w : World} {p q : Nat} {D : DM} {A : Option Addr} {c : Nat} (o : OP22) (hb : Both B w p q D) (hB : B ≤ w.heap.size) (hk : (o.kind == 1) = false ∧ (o.kind == 2) = false ∧ (o.kind == 3) = false ∧ (o.kind == 4) = false ∧ (o.kind == 5) = false ∧ (o.kind == 6) = false) :
  Calls Try.prog 33 #[.pointer (some ⟨p, 0, none⟩), .pointer (some ⟨q, 0, none⟩), .agg (opArr o A c)] w (OneOut B w p q D) := by
  obtain ⟨k1, k2, k3, k4, k5, k6⟩ := hk
  have hB1 := below_alloc (Below.refl w.heap.size w) (.cells (opArr o A c) 65)
  have HX := hid (OneOut.same hb hB hB1)
  clear hB1
  go_enter Try.func33, Try.ntmps33
  go_wp2
  go_ret
  exact HX.out
set_option maxRecDepth 100000 in
set_option maxHeartbeats 4000000 in
theorem one4 {B : Nat} {w : World} {p q : Nat} {D : DM} {A : Option Addr} {c : Nat} (o : OP22) (ho : o.ok) (hb : Both B w p q D) (hB : B ≤ w.heap.size) (hk : o.kind = 4) :
  Calls Try.prog 33 #[.pointer (some ⟨p, 0, none⟩), .pointer (some ⟨q, 0, none⟩), .agg (opArr o A c)] w (OneOut B w p q D) := by
  have k1 : (o.kind == 1) = false := by rw [hk]; decide
  have k2 : (o.kind == 2) = false := by rw [hk]; decide
  have k3 : (o.kind == 3) = false := by rw [hk]; decide
  have k4 : (o.kind == 4) = true := by rw [hk]; decide
  have hB1 := below_alloc (Below.refl w.heap.size w) (.cells (opArr o A c) 65)
  have hx := bx_new w o A c
  have hs1 : (w.alloc (.cells (opArr o A c) 65)).heap.size = w.heap.size + 1 := by simp
  obtain ⟨okd, okt, hd0, ht0, hap, hed, het⟩ := hb
  have hd := hd0.step (w1 := w.alloc (.cells (opArr o A c) 65)) (fun k _ hk => hB1.block k hk)
  have ht := ht0.step (w1 := w.alloc (.cells (opArr o A c) 65)) (fun k _ hk => hB1.block k hk)
  have HS := hid hs1
  clear hk hd0 ht0 hs1
  go_enter Try.func33, Try.ntmps33
  go_wp2_with fail
  generalize w.alloc (.cells (opArr o A c) 65) = w1 at hB1 hx hd ht HS ⊢
  refine (cut_any o.at_ hd ho.a.2).mono ?_
  rintro e w2 ⟨rfl, hd2, hc2⟩
  have hx2 := hx.step hc2 (fun h => by have := (hed _ h).2; omega)
  have g3 := hx2.c3
  have ht2 := ht.step (w1 := w2) (fun k hk hlt => hc2.block k hlt (fun h => hap k h hk))
  go_wp2_with fail
  refine (rcut_any o.at_ ht2 ho.a.2).mono ?_
  rintro e w3 ⟨rfl, ht3, hc3⟩
  have hd3 := hd2.step (w1 := w3) (fun k hk hlt => hc3.block k hlt (fun h => hap k hk h))
  have s1 := HS.out
  have s2 := hc2.size
  have s3 := hc3.size
  have hfin : Both B w3 p q (D.cut o.at_) := ⟨okd, okt, hd3, ht3, hap, fun k hk => ⟨(hed k hk).1, by have := (hed k hk).2; omega⟩, fun k hk => ⟨(het k hk).1, by have := (het k hk).2; omega⟩⟩
  have t3 : Below B w w3 := (hB1.mono hB).trans ((hc2.below_ (B := B) (by omega) (fun k hk => (hed k hk).1)).trans (hc3.below_ (B := B) (by omega) (fun k hk => (het k hk).1)))
  have HF := hid (show OneOut B w p q D (.returned (.bool true)) w3 from ⟨rfl, ⟨_, hfin, by show D.ws.length ≤ _; omega⟩, t3⟩)
  clear g3 hd hd2 hd3 ht ht2 ht3 hx hx2 hB1 hc2 hc3 hfin t3
  go_wp2
  go_ret
  exact HF.out
set_option maxRecDepth 100000 in
set_option maxHeartbeats 4000000 in
theorem one5 {B : Nat} {w : World} {p q : Nat} {D : DM} {A : Option Addr} {c : Nat} (o : OP22) (hb : Both B w p q D) (hB : B ≤ w.heap.size) (hk : o.kind = 5) :
  Calls Try.prog 33 #[.pointer (some ⟨p, 0, none⟩), .pointer (some ⟨q, 0, none⟩), .agg (opArr o A c)] w (OneOut B w p q D) := by
  have k1 : (o.kind == 1) = false := by rw [hk]; decide
  have k2 : (o.kind == 2) = false := by rw [hk]; decide
  have k3 : (o.kind == 3) = false := by rw [hk]; decide
  have k4 : (o.kind == 4) = false := by rw [hk]; decide
  have k5 : (o.kind == 5) = true := by rw [hk]; decide
  have hB1 := below_alloc (Below.refl w.heap.size w) (.cells (opArr o A c) 65)
  have hs1 : (w.alloc (.cells (opArr o A c) 65)).heap.size = w.heap.size + 1 := by simp
  obtain ⟨okd, okt, hd0, ht0, hap, hed, het⟩ := hb
  have hd := hd0.step (w1 := w.alloc (.cells (opArr o A c) 65)) (fun k _ hk => hB1.block k hk)
  have ht := ht0.step (w1 := w.alloc (.cells (opArr o A c) 65)) (fun k _ hk => hB1.block k hk)
  have HS := hid hs1
  clear hk hd0 ht0 hs1
  go_enter Try.func33, Try.ntmps33
  go_wp2_with fail
  generalize w.alloc (.cells (opArr o A c) 65) = w1 at hB1 hd ht HS ⊢
  refine (on_any hd).mono ?_
  rintro e w2 ⟨rfl, hd2, hc2⟩
  have ht2 := ht.step (w1 := w2) (fun k hk hlt => hc2.block k hlt (fun h => hap k h hk))
  go_wp2_with fail
  refine (ron_any ht2).mono ?_
  rintro e w3 ⟨rfl, ht3, hc3⟩
  have hd3 := hd2.step (w1 := w3) (fun k hk hlt => hc3.block k hlt (fun h => hap k hk h))
  have s1 := HS.out
  have s2 := hc2.size
  have s3 := hc3.size
  have hfin : Both B w3 p q { D with left := -1, gone := false } := ⟨okd, okt, hd3, ht3, hap, fun k hk => ⟨(hed k hk).1, by have := (hed k hk).2; omega⟩, fun k hk => ⟨(het k hk).1, by have := (het k hk).2; omega⟩⟩
  have t3 : Below B w w3 := (hB1.mono hB).trans ((hc2.below_ (B := B) (by omega) (fun k hk => (hed k hk).1)).trans (hc3.below_ (B := B) (by omega) (fun k hk => (het k hk).1)))
  have HF := hid (show OneOut B w p q D (.returned (.bool true)) w3 from ⟨rfl, ⟨_, hfin, by show D.ws.length ≤ _; omega⟩, t3⟩)
  clear hd hd2 hd3 ht ht2 ht3 hB1 hc2 hc3 hfin t3
  go_wp2
  go_ret
  exact HF.out
set_option maxRecDepth 100000 in
set_option maxHeartbeats 4000000 in
theorem one3 {B : Nat} {w : World} {p q : Nat} {D : DM} {A : Option Addr} {c : Nat} (o : OP22) (hb : Both B w p q D) (hB : B ≤ w.heap.size) (hk : o.kind = 3) :
  Calls Try.prog 33 #[.pointer (some ⟨p, 0, none⟩), .pointer (some ⟨q, 0, none⟩), .agg (opArr o A c)] w (OneOut B w p q D) := by
  have k1 : (o.kind == 1) = false := by rw [hk]; decide
  have k2 : (o.kind == 2) = false := by rw [hk]; decide
  have k3 : (o.kind == 3) = true := by rw [hk]; decide
  have hB1 := below_alloc (Below.refl w.heap.size w) (.cells (opArr o A c) 65)
  have hx := bx_new w o A c
  have HFN := hid (fun w' (h : Below w.heap.size w w') => OneOut.same (w' := w') hb hB h)
  obtain ⟨okd, okt, hd0, ht0, hap, hed, het⟩ := hb
  have hd := hd0.step (w1 := w.alloc (.cells (opArr o A c) 65)) (fun k _ hk => hB1.block k hk)
  have ht := ht0.step (w1 := w.alloc (.cells (opArr o A c) 65)) (fun k _ hk => hB1.block k hk)
  have hc := sgen_any hd o.base o.end_
  have hc2 := fun (W : World) (hW : Below (w.alloc (.cells (opArr o A c) 65)).heap.size (w.alloc (.cells (opArr o A c) 65)) W) => rgen_any (w := W) (ht.step (fun k _ hk => hW.block k hk)) o.base o.end_
  generalize genM D o.base o.end_ = G at hc hc2
  generalize regE D o.base o.end_ = E at hc hc2
  have HC2 := hid hc2
  clear hk hd0 ht0 hd ht hc2
  go_enter Try.func33, Try.ntmps33
  go_wp2_with fail
  generalize w.alloc (.cells (opArr o A c) 65) = w1 at hB1 hx hc HC2 ⊢
  refine hc.mono ?_
  rintro e w2 ⟨rfl, b2⟩
  have hx2 := hx.below b2
  have g1 := hx2.c1
  have g2 := hx2.c2
  have hc3 := HC2.out w2 b2
  clear hc HC2
  go_wp2_with fail
  refine hc3.mono ?_
  rintro e w3 ⟨rfl, b3⟩
  have HF := hid (HFN.out w3 (hB1.trans ((b2.trans (b3.mono b2.size)).mono hB1.size)))
  clear hc3 g1 g2 hx hx2 b2 b3 hB1
  go_wp2
  go_ret
  exact HF.out
set_option maxRecDepth 100000 in
set_option maxHeartbeats 4000000 in
theorem one2 {B : Nat} {w : World} {p q : Nat} {D : DM} {A : Option Addr} {c : Nat} (o : OP22) (hb : Both B w p q D) (hB : B ≤ w.heap.size) (hk : o.kind = 2) :
  Calls Try.prog 33 #[.pointer (some ⟨p, 0, none⟩), .pointer (some ⟨q, 0, none⟩), .agg (opArr o A c)] w (OneOut B w p q D) := by
  have k1 : (o.kind == 1) = false := by rw [hk]; decide
  have k2 : (o.kind == 2) = true := by rw [hk]; decide
  have hB1 := below_alloc (Below.refl w.heap.size w) (.cells (opArr o A c) 65)
  have hx := bx_new w o A c
  have HFN := hid (fun w' (h : Below w.heap.size w w') => OneOut.same (w' := w') hb hB h)
  obtain ⟨okd, okt, hd0, ht0, hap, hed, het⟩ := hb
  have hd := hd0.step (w1 := w.alloc (.cells (opArr o A c) 65)) (fun k _ hk => hB1.block k hk)
  have ht := ht0.step (w1 := w.alloc (.cells (opArr o A c) 65)) (fun k _ hk => hB1.block k hk)
  have hc := sread_any hd o.base o.end_ o.gen o.at_
  have hc2 := fun (W : World) (hW : Below (w.alloc (.cells (opArr o A c) 65)).heap.size (w.alloc (.cells (opArr o A c) 65)) W) => rsread_any (w := W) (ht.step (fun k _ hk => hW.block k hk)) o.base o.end_ o.gen o.at_
  unfold ReadPost recV at hc hc2
  generalize (readV D o.base o.end_ o.gen o.at_).getD noR = R0 at hc hc2
  generalize (readV D o.base o.end_ o.gen o.at_).isSome = is_ at hc hc2
  generalize readE D o.base o.end_ o.at_ = E at hc hc2
  have HC2 := hid hc2
  clear hk hd0 ht0 hd ht hc2
  go_enter Try.func33, Try.ntmps33
  go_wp2_with fail
  generalize w.alloc (.cells (opArr o A c) 65) = w1 at hB1 hx hc HC2 ⊢
  refine hc.mono ?_
  rintro e w2 ⟨A2, c2, rfl, hR2, hle2, b2⟩
  clear hc
  have b3 := below_alloc b2 (.cells #[.int .u64 R0.gen, .int .i64 R0.at_, .int .i64 R0.kind, .slice A2 R0.bytes.length c2] 25)
  have hn3 := heap_alloc_new w2 (.cells #[.int .u64 R0.gen, .int .i64 R0.at_, .int .i64 R0.kind, .slice A2 R0.bytes.length c2] 25)
  have hC3 := (Kd.R_reads' (Kd.R_alloc hR2 (.cells #[.int .u64 R0.gen, .int .i64 R0.at_, .int .i64 R0.kind, .slice A2 R0.bytes.length c2] 25))).2.2
  go_upto_region 6 with (fail)
  clear hR2 b2
  generalize w2.alloc (.cells #[.int .u64 R0.gen, .int .i64 R0.at_, .int .i64 R0.kind, .slice A2 R0.bytes.length c2] 25) = w3 at b3 hn3 hC3 ⊢
  have hx3 := hx.below b3
  have g1 := hx3.c1
  have g2 := hx3.c2
  have g3 := hx3.c3
  have g4 := hx3.c4
  have hc3 := HC2.out w3 b3
  clear HC2 hx hx3
  go_wp2_with fail
  refine hc3.mono ?_
  rintro e w4 ⟨A4, c4, rfl, hR4, hle4, b4⟩
  clear hc3 g1 g2 g3 g4
  have b5 := below_alloc b4 (.cells #[.int .u64 R0.gen, .int .i64 R0.at_, .int .i64 R0.kind, .slice A4 R0.bytes.length c4] 28)
  have hn5 := heap_alloc_new w4 (.cells #[.int .u64 R0.gen, .int .i64 R0.at_, .int .i64 R0.kind, .slice A4 R0.bytes.length c4] 28)
  have hC5 := (Kd.R_reads' (Kd.R_alloc hR4 (.cells #[.int .u64 R0.gen, .int .i64 R0.at_, .int .i64 R0.kind, .slice A4 R0.bytes.length c4] 28))).2.2
  have hn35 := (b5.block _ (blk_lt hn3)).trans hn3
  have hC35 := Kd.C_below hC3 b5
  have hBn := hB1.trans ((b3.trans (b5.mono b3.size)).mono hB1.size)
  go_upto_region 7 with (fail)
  clear hR4 b4 b5 b3 hn3 hC3 hB1
  generalize w4.alloc (.cells #[.int .u64 R0.gen, .int .i64 R0.at_, .int .i64 R0.kind, .slice A4 R0.bytes.length c4] 28) = w5 at hn5 hC5 hn35 hC35 hBn ⊢
  have m0 := cell_of_row _ _ 0 _ _ _ hn35
  have m1 := cell_of_row _ _ 1 _ _ _ hn35
  have m2 := cell_of_row _ _ 2 _ _ _ hn35
  have m3 := cell_of_row _ _ 3 _ _ _ hn35
  have s0 := cell_of_row _ _ 0 _ _ _ hn5
  have s1 := cell_of_row _ _ 1 _ _ _ hn5
  have s2 := cell_of_row _ _ 2 _ _ _ hn5
  have s3 := cell_of_row _ _ 3 _ _ _ hn5
  simp at m0 m1 m2 m3 s0 s1 s2 s3
  have hsm := sameRecord_true R0 hC35 hle2 hC5 hle4
  unfold recV at hsm
  clear hn5 hn35 hC5 hC35
  go_wp2_with fail
  refine hsm.mono ?_
  rintro e w6 ⟨rfl, b6⟩
  have HF := hid (HFN.out w6 (below_step hBn b6))
  clear hsm m0 m1 m2 m3 s0 s1 s2 s3 b6 hBn
  go_wp2
  go_ret
  exact HF.out
set_option maxRecDepth 100000 in
set_option maxHeartbeats 4000000 in
theorem one1 {B : Nat} {w : World} {p q : Nat} {D : DM} {A : Option Addr} {c : Nat} (o : OP22) (ho : o.ok) (hb : Both B w p q D) (hB : B ≤ w.heap.size) (hk : o.kind = 1) (hC : ∀ w', Below B w w' → RB w' (fun k => k < B) A o.r.bytes) (hle : o.r.bytes.length ≤ c) (hm : (D.ws.length + 65537) * 32 ≤ 140737488355328) :
  Calls Try.prog 33 #[.pointer (some ⟨p, 0, none⟩), .pointer (some ⟨q, 0, none⟩), .agg (opArr o A c)] w (OneOut B w p q D) := by
  have k1 : (o.kind == 1) = true := by rw [hk]; decide
  have hB1 := below_alloc (Below.refl w.heap.size w) (.cells (opArr o A c) 65)
  have hx := bx_new w o A c
  have hs1 : (w.alloc (.cells (opArr o A c) 65)).heap.size = w.heap.size + 1 := by simp
  obtain ⟨okd, okt, hd0, ht0, hap, hed, het⟩ := hb
  have hd := hd0.step (w1 := w.alloc (.cells (opArr o A c) 65)) (fun k _ hk => hB1.block k hk)
  have ht := ht0.step (w1 := w.alloc (.cells (opArr o A c) 65)) (fun k _ hk => hB1.block k hk)
  have HS := hid hs1
  clear hk hd0 ht0 hs1
  have hrl := ho.r.l
  go_enter Try.func33, Try.ntmps33
  go_wp2_with fail
  generalize w.alloc (.cells (opArr o A c) 65) = w1 at hB1 hx hd ht HS ⊢
  have hC1 := Kd.F_now (hC w1 (hB1.mono hB))
  refine wp_region_plan [] (.take 0 (.take 1 (.take 2 (.take 3 (.take 4 (.take 7 (.take 8 (.take 9 (.take 10 (.take 11 (.run 5 (.run 6 (.run 12 (.take 13 (.take 14 .done))))))))))))))) (fun w' => Bx w' w.heap.size o A c) (by kernel_rfl) (by kernel_rfl) (fun c a d v w h => by cases d <;> exact h) (hx.below (below_drew (Below.refl _ _))) ?_
  (apply plan_take rfl rfl; (case hy => (intro w' hS; have s0 := hS.c0; have s1 := hS.c1; have s2 := hS.c2; have s3 := hS.c3; have s8 := hS.c8; clear hS; go_simp; try exact rfl)); go_simp); (apply plan_take rfl rfl; (case hy => (intro w' hS; have s0 := hS.c0; have s1 := hS.c1; have s2 := hS.c2; have s3 := hS.c3; have s8 := hS.c8; clear hS; go_simp; try exact rfl)); go_simp); (apply plan_take rfl rfl; (case hy => (intro w' hS; have s0 := hS.c0; have s1 := hS.c1; have s2 := hS.c2; have s3 := hS.c3; have s8 := hS.c8; clear hS; go_simp; try exact rfl)); go_simp); (apply plan_take rfl rfl; (case hy => (intro w' hS; have s0 := hS.c0; have s1 := hS.c1; have s2 := hS.c2; have s3 := hS.c3; have s8 := hS.c8; clear hS; go_simp; try exact rfl)); go_simp)
  apply plan_take rfl rfl
  case hy => (intro w' hS; exact exec_load_row 28 (.tmp 24) rfl ⟨w.heap.size, 5, none⟩ rfl [.int .u64 o.r.gen, .int .i64 o.r.at_, .int .i64 o.r.kind, .slice A o.r.bytes.length c] _ hS.rec_ Try.underlying28 rfl (by kernel_rfl))
  go_simp
  (apply plan_take rfl rfl; (case hy => (intro w' hS; have s0 := hS.c0; have s1 := hS.c1; have s2 := hS.c2; have s3 := hS.c3; have s8 := hS.c8; clear hS; go_simp; try exact rfl)); go_simp); (apply plan_take rfl rfl; (case hy => (intro w' hS; have s0 := hS.c0; have s1 := hS.c1; have s2 := hS.c2; have s3 := hS.c3; have s8 := hS.c8; clear hS; go_simp; try exact rfl)); go_simp); (apply plan_take rfl rfl; (case hy => (intro w' hS; have s0 := hS.c0; have s1 := hS.c1; have s2 := hS.c2; have s3 := hS.c3; have s8 := hS.c8; clear hS; go_simp; try exact rfl)); go_simp); (apply plan_take rfl rfl; (case hy => (intro w' hS; have s0 := hS.c0; have s1 := hS.c1; have s2 := hS.c2; have s3 := hS.c3; have s8 := hS.c8; clear hS; go_simp; try exact rfl)); go_simp)
  apply plan_take rfl rfl
  case hy => (intro w' hS; exact exec_load_row 28 (.tmp 31) rfl ⟨w.heap.size, 5, none⟩ rfl [.int .u64 o.r.gen, .int .i64 o.r.at_, .int .i64 o.r.kind, .slice A o.r.bytes.length c] _ hS.rec_ Try.underlying28 rfl (by kernel_rfl))
  go_simp
  have hmn := mine_any (w := w1.drew) o.r (Kd.C_below hC1 (below_drew (Below.refl _ _))) hle (by omega)
  unfold recV at hmn
  refine plan_run_on rfl rfl (fun K hK => ?_)
  go_simp
  refine hmn.mono ?_
  rintro e w2 ⟨A2, c2, rfl, hR2, hle2, b2⟩
  have b12 : Below w1.heap.size w1 w2 := below_step (below_drew (Below.refl w1.heap.size w1)) b2
  refine hK _ _ _ (fun _ h => h) (hx.below b12) ?_
  clear hK K hmn
  go_simp
  have hd2 := hd.step (w1 := w2) (fun k _ hk => b12.block k hk)
  have ht2 := ht.step (w1 := w2) (fun k _ hk => b12.block k hk)
  have s1 := HS.out
  have s2 := b12.size
  have hF2 : RB w2 (fun k => w1.heap.size ≤ k) A2 o.r.bytes := Kd.R_F hR2
  have hsw := swrite_any (c := c2) p o.base o.r hd2 hF2 (fun k h1 h2 => by have := (hed k h2).2; omega) hle2 ho.r.b ho.r.g ho.b hm
  unfold recV at hsw
  have hwl := sealW_ws D o.base ho.r.g ho.r.b
  refine plan_run_on rfl rfl (fun K hK => ?_)
  go_simp
  refine hsw.mono ?_
  rintro e w3 ⟨rfl, hd3, hc3⟩
  have s3 := hc3.size
  have hx3 := (hx.below b12).step hc3 (fun h => by have := (hed _ h).2; omega)
  refine hK _ _ _ (fun _ h => h) hx3 ?_
  clear hK K hsw
  go_simp
  have ht3 := ht2.step (w1 := w3) (fun k hk hlt => hc3.block k hlt (fun h => hap k h hk))
  have t3 : Below B w w3 := (hB1.mono hB).trans ((b12.mono (by omega)).trans (hc3.below_ (B := B) (by omega) (fun k hk => (hed k hk).1)))
  have hrw := rwrite22_any (c := c) q o.base o.r ht3 (hC w3 t3) hle ho.r.b ho.r.g ho.b hm
  unfold recV at hrw
  refine plan_run_on rfl rfl (fun K hK => ?_)
  go_simp
  refine hrw.mono ?_
  rintro e w4 ⟨rfl, ht4, hc4⟩
  have s4 := hc4.size
  have hx4 := hx3.step hc4 (fun h => by have := (het _ h).2; omega)
  refine hK _ _ _ (fun _ h => h) hx4 ?_
  clear hK K hrw
  go_simp
  iterate 2 (apply plan_take rfl rfl; (case hy => (intro w' hS; clear hS; go_simp; try exact rfl)); go_simp)
  refine plan_done ?_
  have hd4 := hd3.bound.step (w1 := w4) (fun k hk hlt => hc4.block k hlt (fun h => hk.1.elim (fun h2 => hap k h2 h) (fun h2 => by have h3 : w2.heap.size ≤ k := h2; have := (het k h).2; omega)))
  have ht4b := ht4.bound
  have hfin : Both B w4 p q (D.sealW o.base o.r).1 := ⟨_, _, hd4, ht4b, fun k h1 h2 => h1.1.elim (fun h3 => h2.1.elim (fun h4 => hap k h3 h4) (fun h4 => by have h5 : w3.heap.size ≤ k := h4; have := (hed k h3).2; omega)) (fun h3 => h2.1.elim (fun h4 => by have h5 : w2.heap.size ≤ k := h3; have := (het k h4).2; omega) (fun h4 => by have h5 : w3.heap.size ≤ k := h4; have := h1.2; omega)),
    fun k hk => ⟨hk.1.elim (fun h => (hed k h).1) (fun h => by have h5 : w2.heap.size ≤ k := h; omega), by have := hk.2; omega⟩, fun k hk => ⟨hk.1.elim (fun h => (het k h).1) (fun h => by have h5 : w3.heap.size ≤ k := h; omega), hk.2⟩⟩
  have t4 : Below B w w4 := t3.trans (hc4.below_ (B := B) (by omega) (fun k hk => (het k hk).1))
  have HF := hid (show OneOut B w p q D (.returned (.bool true)) w4 from ⟨rfl, ⟨_, hfin, hwl⟩, t4⟩)
  clear hd hd2 hd3 hd4 ht ht2 ht3 ht4 ht4b hx hx3 hx4 hB1 hc3 hc4 hfin t3 t4 hwl hF2 hR2 hC1 b12 b2
  go_wp2
  go_ret
  exact HF.out
set_option maxRecDepth 100000 in
set_option maxHeartbeats 4000000 in
theorem one6 {B : Nat} {w : World} {p q : Nat} {D : DM} {A : Option Addr} {c : Nat} (o : OP22) (ho : o.ok) (hb : Both B w p q D) (hB : B ≤ w.heap.size) (hk : o.kind = 6) (hC : ∀ w', Below B w w' → RB w' (fun k => k < B) A o.r.bytes) (hle : o.r.bytes.length ≤ c) (hm : (D.ws.length + 65537) * 32 ≤ 140737488355328) :
  Calls Try.prog 33 #[.pointer (some ⟨p, 0, none⟩), .pointer (some ⟨q, 0, none⟩), .agg (opArr o A c)] w (OneOut B w p q D) := by
  have k1 : (o.kind == 1) = false := by rw [hk]; decide
  have k2 : (o.kind == 2) = false := by rw [hk]; decide
  have k3 : (o.kind == 3) = false := by rw [hk]; decide
  have k4 : (o.kind == 4) = false := by rw [hk]; decide
  have k5 : (o.kind == 5) = false := by rw [hk]; decide
  have k6 : (o.kind == 6) = true := by rw [hk]; decide
  have hB1 := below_alloc (Below.refl w.heap.size w) (.cells (opArr o A c) 65)
  have hx := bx_new w o A c
  have hs1 : (w.alloc (.cells (opArr o A c) 65)).heap.size = w.heap.size + 1 := by simp
  obtain ⟨okd, okt, hd0, ht0, hap, hed, het⟩ := hb
  have hd := hd0.step (w1 := w.alloc (.cells (opArr o A c) 65)) (fun k _ hk => hB1.block k hk)
  have ht := ht0.step (w1 := w.alloc (.cells (opArr o A c) 65)) (fun k _ hk => hB1.block k hk)
  have HS := hid hs1
  clear hk hd0 ht0 hs1
  have hrl := ho.r.l
  go_enter Try.func33, Try.ntmps33
  go_wp2_with fail
  generalize w.alloc (.cells (opArr o A c) 65) = w1 at hB1 hx hd ht HS ⊢
  have hC1 := Kd.F_now (hC w1 (hB1.mono hB))
  refine wp_region_plan [] (.take 0 (.take 1 (.take 2 (.take 4 (.take 5 (.take 6 (.take 9 (.take 10 (.take 11 (.take 12 (.take 13 (.take 14 (.run 3 (.run 7 (.run 8 (.run 15 (.take 16 (.take 17 .done)))))))))))))))))) (fun w' => Bx w' w.heap.size o A c) (by kernel_rfl) (by kernel_rfl) (fun c a d v w h => by cases d <;> exact h) (hx.below (below_drew (Below.refl _ _))) ?_
  (apply plan_take rfl rfl; (case hy => (intro w' hS; have s0 := hS.c0; have s1 := hS.c1; have s2 := hS.c2; have s3 := hS.c3; have s8 := hS.c8; clear hS; go_simp; try exact rfl)); go_simp); (apply plan_take rfl rfl; (case hy => (intro w' hS; have s0 := hS.c0; have s1 := hS.c1; have s2 := hS.c2; have s3 := hS.c3; have s8 := hS.c8; clear hS; go_simp; try exact rfl)); go_simp); (apply plan_take rfl rfl; (case hy => (intro w' hS; have s0 := hS.c0; have s1 := hS.c1; have s2 := hS.c2; have s3 := hS.c3; have s8 := hS.c8; clear hS; go_simp; try exact rfl)); go_simp); (apply plan_take rfl rfl; (case hy => (intro w' hS; have s0 := hS.c0; have s1 := hS.c1; have s2 := hS.c2; have s3 := hS.c3; have s8 := hS.c8; clear hS; go_simp; try exact rfl)); go_simp); (apply plan_take rfl rfl; (case hy => (intro w' hS; have s0 := hS.c0; have s1 := hS.c1; have s2 := hS.c2; have s3 := hS.c3; have s8 := hS.c8; clear hS; go_simp; try exact rfl)); go_simp); (apply plan_take rfl rfl; (case hy => (intro w' hS; have s0 := hS.c0; have s1 := hS.c1; have s2 := hS.c2; have s3 := hS.c3; have s8 := hS.c8; clear hS; go_simp; try exact rfl)); go_simp); (apply plan_take rfl rfl; (case hy => (intro w' hS; have s0 := hS.c0; have s1 := hS.c1; have s2 := hS.c2; have s3 := hS.c3; have s8 := hS.c8; clear hS; go_simp; try exact rfl)); go_simp); (apply plan_take rfl rfl; (case hy => (intro w' hS; have s0 := hS.c0; have s1 := hS.c1; have s2 := hS.c2; have s3 := hS.c3; have s8 := hS.c8; clear hS; go_simp; try exact rfl)); go_simp); (apply plan_take rfl rfl; (case hy => (intro w' hS; have s0 := hS.c0; have s1 := hS.c1; have s2 := hS.c2; have s3 := hS.c3; have s8 := hS.c8; clear hS; go_simp; try exact rfl)); go_simp); (apply plan_take rfl rfl; (case hy => (intro w' hS; have s0 := hS.c0; have s1 := hS.c1; have s2 := hS.c2; have s3 := hS.c3; have s8 := hS.c8; clear hS; go_simp; try exact rfl)); go_simp); (apply plan_take rfl rfl; (case hy => (intro w' hS; have s0 := hS.c0; have s1 := hS.c1; have s2 := hS.c2; have s3 := hS.c3; have s8 := hS.c8; clear hS; go_simp; try exact rfl)); go_simp); (apply plan_take rfl rfl; (case hy => (intro w' hS; have s0 := hS.c0; have s1 := hS.c1; have s2 := hS.c2; have s3 := hS.c3; have s8 := hS.c8; clear hS; go_simp; try exact rfl)); go_simp)
  refine plan_run_on rfl rfl (fun K hK => ?_)
  go_simp
  have b2a : Below w1.heap.size w1 (w1.alloc (Obj.cells #[] 5)).drew := below_drew (below_alloc (Below.refl _ _) _)
  refine hK _ _ _ (fun _ h => h) (hx.below b2a) ?_
  clear hK K
  go_simp
  have hO2 : KB.R 5 (w1.alloc (Obj.cells #[] 5)).drew w1.heap.size (fun _ => True) (.slice (some ⟨w1.heap.size, 0, none⟩) 0 0) [] := Kd.R_drew (Kd.R_of_own (World.ownsRow_made (base := w1.heap.size) w1 #[] 0 (Nat.le_refl _) (Nat.zero_le _) rfl) (fun _ _ => trivial))
  have hC2 := Kd.C_below hC1 b2a
  have hx2a := hx.below b2a
  generalize (w1.alloc (Obj.cells #[] 5)).drew = w2a at b2a hO2 hC2 hx2a ⊢
  have s1 := HS.out
  have s2a := b2a.size
  refine plan_run_on rfl rfl (fun K hK => ?_)
  refine step_append_row (w0 := w1) w1.heap.size (.tmp 127) (.tmp 130) 22 5 .u8 1 rfl Try.underlying22 info_u8 (by decide) _ [] o.r.bytes A o.r.bytes.length c rfl rfl (R_own1 hO2) (C_int hC2) b2a s2a (by simp; omega) ?_
  intro v2 w2 ho2 b12 hg2 hat2
  rw [List.nil_append] at ho2
  have hR2 : KB.R 5 w2 w1.heap.size (fun k => w1.heap.size ≤ k) v2 o.r.bytes := Rown ho2 (fun k hk => own_base ho2 k hk)
  obtain ⟨A2, c2, rfl, hle2, _⟩ := Kd.R_reads hR2
  refine hK _ _ _ (fun _ h => h) (hx.below b12) ?_
  clear hK K hO2 hC2 hx2a hg2 hat2 ho2
  go_simp
  have hd2 := hd.step (w1 := w2) (fun k _ hk => b12.block k hk)
  have ht2 := ht.step (w1 := w2) (fun k _ hk => b12.block k hk)
  have s2 := b12.size
  have hF2 : RB w2 (fun k => w1.heap.size ≤ k) A2 o.r.bytes := Kd.R_F hR2
  have hsw := write_any (c := c2) o.base hd2 hF2 (fun k h1 h2 => by have := (hed k h2).2; omega) ho.r.b (by omega)
  have hwl : (D.writeD o.base o.r.bytes).ws.length ≤ D.ws.length + 65536 := by
    unfold DM.writeD
    split
    · omega
    · split
      · omega
      · split
        · show D.ws.length ≤ _; omega
        · simp
  refine plan_run_on rfl rfl (fun K hK => ?_)
  go_simp
  refine hsw.mono ?_
  rintro e w3 ⟨rfl, hd3, hc3⟩
  have s3 := hc3.size
  have hx3 := (hx.below b12).step hc3 (fun h => by have := (hed _ h).2; omega)
  refine hK _ _ _ (fun _ h => h) hx3 ?_
  clear hK K hsw
  go_simp
  have ht3 := ht2.step (w1 := w3) (fun k hk hlt => hc3.block k hlt (fun h => hap k h hk))
  have t3 : Below B w w3 := (hB1.mono hB).trans ((b12.mono (by omega)).trans (hc3.below_ (B := B) (by omega) (fun k hk => (hed k hk).1)))
  have hrw := rwrite_any (c := c) o.base ht3 (hC w3 t3) (fun k h1 h2 => by have := (het k h2).1; omega) ho.r.b (by omega)
  refine plan_run_on rfl rfl (fun K hK => ?_)
  go_simp
  refine hrw.mono ?_
  rintro e w4 ⟨rfl, ht4, hc4⟩
  have s4 := hc4.size
  have hx4 := hx3.step hc4 (fun h => by have := (het _ h).2; omega)
  refine hK _ _ _ (fun _ h => h) hx4 ?_
  clear hK K hrw
  go_simp
  iterate 2 (apply plan_take rfl rfl; (case hy => (intro w' hS; clear hS; go_simp; try exact rfl)); go_simp)
  refine plan_done ?_
  have hd4 := hd3.bound.step (w1 := w4) (fun k hk hlt => hc4.block k hlt (fun h => hk.1.elim (fun h2 => hap k h2 h) (fun h2 => by have h3 : w2.heap.size ≤ k := h2; have := (het k h).2; omega)))
  have ht4b := ht4.bound
  have hfin : Both B w4 p q (D.writeD o.base o.r.bytes) := ⟨_, _, hd4, ht4b, fun k h1 h2 => h1.1.elim (fun h3 => h2.1.elim (fun h4 => hap k h3 h4) (fun h4 => by have h5 : w3.heap.size ≤ k := h4; have := (hed k h3).2; omega)) (fun h3 => h2.1.elim (fun h4 => by have h5 : w2.heap.size ≤ k := h3; have := (het k h4).2; omega) (fun h4 => by have h5 : w3.heap.size ≤ k := h4; have := h1.2; omega)),
    fun k hk => ⟨hk.1.elim (fun h => (hed k h).1) (fun h => by have h5 : w2.heap.size ≤ k := h; omega), by have := hk.2; omega⟩, fun k hk => ⟨hk.1.elim (fun h => (het k h).1) (fun h => by have h5 : w3.heap.size ≤ k := h; omega), hk.2⟩⟩
  have t4 : Below B w w4 := t3.trans (hc4.below_ (B := B) (by omega) (fun k hk => (het k hk).1))
  have HF := hid (show OneOut B w p q D (.returned (.bool true)) w4 from ⟨rfl, ⟨_, hfin, hwl⟩, t4⟩)
  clear hd hd2 hd3 hd4 ht ht2 ht3 ht4 ht4b hx hx3 hx4 hB1 hc3 hc4 hfin t3 t4 hwl hF2 hR2 hC1 b12 b2a
  go_wp2
  go_ret
  exact HF.out
theorem one_any {B : Nat} {w : World} {p q : Nat} {D : DM} {A : Option Addr} {c : Nat} (o : OP22) (ho : o.ok) (hb : Both B w p q D) (hB : B ≤ w.heap.size) (hC : ∀ w', Below B w w' → RB w' (fun k => k < B) A o.r.bytes) (hle : o.r.bytes.length ≤ c) (hm : (D.ws.length + 65537) * 32 ≤ 140737488355328) :
  Calls Try.prog 33 #[.pointer (some ⟨p, 0, none⟩), .pointer (some ⟨q, 0, none⟩), .agg (opArr o A c)] w (OneOut B w p q D) := by
  by_cases h1 : o.kind = 1
  · exact one1 o ho hb hB h1 hC hle hm
  by_cases h2 : o.kind = 2
  · exact one2 o hb hB h2
  by_cases h3 : o.kind = 3
  · exact one3 o hb hB h3
  by_cases h4 : o.kind = 4
  · exact one4 o ho hb hB h4
  by_cases h5 : o.kind = 5
  · exact one5 o hb hB h5
  by_cases h6 : o.kind = 6
  · exact one6 o ho hb hB h6 hC hle hm
  exact one0 o hb hB ⟨by simpa using h1, by simpa using h2, by simpa using h3, by simpa using h4, by simpa using h5, by simpa using h6⟩
end Go.Proofs.Ytekhmkfiepnnkaa

/- What a call's argument reads as, opened, with a measure that its bulk bounds (for the statements of the second form). -/
set_option linter.unusedVariables false
set_option linter.unusedSimpArgs false
namespace Go.Proofs.Ytekhmkfiepnnkaa
open Go.RowKit Go.Proofs.YtekhmkfiepnnkaaW.PrintWords

theorem bulk_pos {H : Type} (d : DataW H) : 1 ≤ Rows.uptoBulk d := by
  cases d with
  | lit l => cases l <;> simp [Rows.uptoBulk]
  | nil => simp [Rows.uptoBulk]
  | ptr d => simp [Rows.uptoBulk]
  | slice elems spare => simp [Rows.uptoBulk]
  | agg parts => simp [Rows.uptoBulk]
  | iface t d => simp [Rows.uptoBulk]
  | map entries => simp [Rows.uptoBulk]
  | held h => simp [Rows.uptoBulk]
theorem bulk_mem {H : Type} {ds : List (DataW H)} {j : Nat} {d : DataW H} (hd : ds[j]? = some d) : Rows.uptoBulk d ≤ Rows.uptoBulkAll ds := by
  induction ds generalizing j with
  | nil => cases hd
  | cons a r ih =>
    simp only [Rows.uptoBulkAll]
    cases j with
    | zero => simp at hd; subst hd; omega
    | succ j => have := ih (j := j) (by simpa using hd); omega
structure OpensM (P : Program) (t : TypeId) {α : Type} (K : Kd α) (G : α → Prop) (m : α → Nat) : Prop where
  go : ∀ {H : Type} {enc : TypeId × Value → H} {W : World} {base : Nat} {spare : Nat → Bool} {held : Bool} {fuel : Nat} {cs : List Value} {d : DataW H} {ps : List MemPlace},
    DataW.trod enc P W base spare held fuel t cs = some (d, ps) → (∀ n ∈ d.weights P t, n ≤ reachBytes) → ∃ x, K.K W x cs ∧ G x ∧ m x ≤ Rows.uptoBulk d
structure OpensMF (P : Program) (fs : List Field) (off : Nat) {α : Type} (K : Kd α) (G : α → Prop) (m : α → Nat) : Prop where
  go : ∀ {H : Type} {enc : TypeId × Value → H} {W : World} {base : Nat} {spare : Nat → Bool} {held : Bool} {fuel : Nat} {cs : List Value} {xs : List (DataW H × List MemPlace)},
    cs.length = off + K.sz → xs.length = fs.length → (∀ (i : Nat) (f : Field), fs[i]? = some f → DataW.trod enc P W base spare held fuel f.type ((cs.drop f.offset).take (P.cellsOf f.type)) = xs[i]?) →
    (∀ n ∈ DataW.weightsEach P (fs.map (·.type)) (xs.map (·.1)), n ≤ reachBytes) → ∃ x, K.K W x (cs.drop off) ∧ G x ∧ m x ≤ Rows.uptoBulkAll (xs.map (·.1))
section
variable {P : Program} {t e : TypeId}
/-- Any opener; the measure 1. -/
theorem Opens.one {α : Type} {K : Kd α} {G : α → Prop} (h : Opens P t K G) : OpensM P t K G (fun _ => 1) := ⟨fun hd hw => by
  obtain ⟨x, hk, hg⟩ := h.go hd hw
  exact ⟨x, hk, hg, bulk_pos _⟩⟩
theorem opensM_string (ht : P.underlying t = some .string) : OpensM P t Kd.string (fun s => s.size ≤ 140737488351232) (fun s => s.size + 1) := by
  constructor
  intro H enc W base spare held fuel cs d ps h hw
  obtain ⟨s, rfl, hx, _⟩ := DataW.trod_string ht h
  obtain ⟨rfl, _⟩ := Prod.mk.inj hx
  refine ⟨s, rfl, ?_, ?_⟩
  · have := hw s.data.toList.length (by simp [DataW.weights])
    rw [Array.length_toList] at this
    exact this
  · simp only [Rows.uptoBulk, Array.length_toList]
    exact Nat.le_refl _
theorem bulkAll_map {H : Type} {α : Type} (m : α → Nat) (D : Nat → DataW H) (X : Nat → α) : ∀ (l : List Nat), (∀ i ∈ l, m (X i) ≤ Rows.uptoBulk (D i)) → ((l.map X).map m).sum ≤ Rows.uptoBulkAll (l.map D) := by
  intro l
  induction l with
  | nil => intro _; simp [Rows.uptoBulkAll]
  | cons a r ih =>
    intro h
    have h1 := h a (by simp)
    have h2 := ih (fun i hi => h i (by simp [hi]))
    simp only [List.map_cons, List.sum_cons, Rows.uptoBulkAll]
    omega
theorem opensM_slice {α : Type} {K : Kd α} {G : α → Prop} {m : α → Nat} {B : Nat} (ht : P.underlying t = some (.slice e)) (hc : P.cellsOf e = K.sz) (hB : P.bytesOf e = B) (hO : OpensM P e K G m) :
    OpensM P t (Kd.slice e K) (fun xs => (∀ x ∈ xs, G x) ∧ xs.length * B ≤ 140737488351232) (fun xs => (xs.map m).sum + 1) := by
  constructor
  intro H enc W base spare held fuel cs d ps h hw
  rcases Go.Deep.open_slice ht h with ⟨rfl, hx⟩ | ⟨a, len, cap, mm, n, D, Pl, rfl, _, hl, hm, hmm, hx, hel⟩
  · exact ⟨[], ⟨none, 0, rfl, Nat.le_refl _, rfl, by simp, fun h => absurd h (by simp)⟩, ⟨by simp, by simp⟩, by simpa using bulk_pos d⟩
  · obtain ⟨rfl, _⟩ := Prod.mk.inj hx
    have hlm : len ≤ mm := by rw [hmm]; split <;> omega
    have one : ∀ i, i < len → ∃ x, (∃ cs', W.cells? base (a.add (i * P.cellsOf e)) (P.cellsOf e) = some cs' ∧ K.K W x cs') ∧ G x ∧ m x ≤ Rows.uptoBulk (D i) := fun i hi => by
      obtain ⟨cs', h1, h2⟩ := hel i (by omega)
      obtain ⟨x, hk, hg⟩ := hO.go h2 (fun n hn => hw n (by
        simp only [DataW.weights, ht]
        exact List.mem_cons_of_mem _ (List.mem_append_left _ (weightsAll_mem (List.mem_map.2 ⟨i, List.mem_range.2 hi, rfl⟩) hn))))
      exact ⟨x, ⟨cs', h1, hk⟩, hg⟩
    rcases Nat.eq_zero_or_pos len with h0 | h0
    · subst h0
      exact ⟨[], ⟨some a, cap, rfl, Nat.zero_le _, rfl, by simp, fun h => absurd h (by simp)⟩, ⟨by simp, by simp⟩, by simpa using bulk_pos _⟩
    · obtain ⟨x0, _⟩ := one 0 h0
      haveI : Inhabited α := ⟨x0⟩
      obtain ⟨X, hX⟩ := Go.Deep.choose_lt (α := α) (p := fun i x => (∃ cs', W.cells? base (a.add (i * P.cellsOf e)) (P.cellsOf e) = some cs' ∧ K.K W x cs') ∧ G x ∧ m x ≤ Rows.uptoBulk (D i)) one
      have hlen : ((List.range len).map X).length = len := by simp
      refine ⟨(List.range len).map X, ⟨some a, cap, by rw [hlen], by rw [hlen]; exact hl, hlen.symm ▸ rfl, ?_, ?_⟩, ⟨?_, ?_⟩, ?_⟩
      · rw [hlen]; exact Nat.le_trans hl (Nat.le_trans hm (by decide))
      · intro _
        refine ⟨a, rfl, fun j p hj => ?_⟩
        have hjl : j < len := by
          have := (List.getElem?_eq_some_iff.1 hj).1
          simpa using this
        have hp : X j = p := by simpa [hjl] using hj
        obtain ⟨⟨cs', h1, hk⟩, _⟩ := hX j hjl
        rw [← hp]
        refine ⟨cs', K.K_len hk, hk, fun i u hu => ?_⟩
        obtain ⟨_, hlen', hcell⟩ := World.cells?_some h1
        have := hcell i (by have := (List.getElem?_eq_some_iff.1 hu).1; omega)
        rw [Go.Deep.add_add, hc] at this
        rw [this, hu]
      · intro x hx
        obtain ⟨i, hi, rfl⟩ := List.mem_map.1 hx
        exact (hX i (List.mem_range.1 hi)).2.1
      · have := hw ((((List.range len).map D).length + ((List.range (mm - len)).map fun j => D (len + j)).length) * P.bytesOf e) (by simp [DataW.weights, ht])
        rw [hB] at this
        simp only [List.length_map, List.length_range] at this ⊢
        exact Nat.le_trans (Nat.mul_le_mul_right _ (by omega)) this
      · have := bulkAll_map m D X (List.range len) (fun i hi => (hX i (List.mem_range.1 hi)).2.2)
        simp only [Rows.uptoBulk]
        omega
theorem opensMF_one {α : Type} {K : Kd α} {G : α → Prop} {m : α → Nat} {f : Field} {off : Nat} (ho : f.offset = off) (hc : P.cellsOf f.type = K.sz) (hO : OpensM P f.type K G m) : OpensMF P [f] off K G m := by
  constructor
  intro H enc W base spare held fuel cs xs hcs hxs hf hw
  match xs, hxs with
  | [(d, ps)], _ =>
    have h := hf 0 f rfl
    have e0 : ((cs.drop f.offset).take (P.cellsOf f.type)) = cs.drop off := by
      rw [ho, hc]; exact List.take_of_length_le (by rw [List.length_drop]; omega)
    rw [e0] at h
    obtain ⟨x, hk, hg, hm⟩ := hO.go h (fun n hn => hw n (by simpa [DataW.weightsEach] using hn))
    exact ⟨x, hk, hg, by simpa [Rows.uptoBulkAll] using hm⟩
theorem opensMF_cons {α β : Type} {K : Kd α} {L : Kd β} {G : α → Prop} {G' : β → Prop} {m : α → Nat} {m' : β → Nat} {f : Field} {fs : List Field} {off : Nat} (ho : f.offset = off) (hc : P.cellsOf f.type = K.sz) (hO : OpensM P f.type K G m)
    (hF : OpensMF P fs (off + K.sz) L G' m') : OpensMF P (f :: fs) off (Kd.pair K L) (fun x => G x.1 ∧ G' x.2) (fun x => m x.1 + m' x.2) := by
  constructor
  intro H enc W base spare held fuel cs xs hcs hxs hf hw
  match xs, hxs with
  | (d, ps) :: xs, hxs =>
    have hcs' : cs.length = off + (K.sz + L.sz) := hcs
    have h := hf 0 f rfl
    rw [ho, hc] at h
    obtain ⟨x, hk, hg, hm⟩ := hO.go h (fun n hn => hw n (by simp only [List.map_cons, DataW.weightsEach, List.mem_append]; exact .inl hn))
    obtain ⟨y, hl, hg', hm'⟩ := hF.go (cs := cs) (xs := xs) (by omega) (by simpa using hxs) (fun i g hi => by simpa using hf (i + 1) g (by simpa using hi)) (fun n hn => hw n (by simp only [List.map_cons, DataW.weightsEach, List.mem_append]; exact .inr hn))
    refine ⟨(x, y), ⟨(cs.drop off).take K.sz, cs.drop (off + K.sz), ?_, hk, hl⟩, ⟨hg, hg'⟩, ?_⟩
    · rw [← List.drop_drop, List.take_append_drop]
    · simp only [List.map_cons, Rows.uptoBulkAll]; omega
theorem opensM_struct {α : Type} {K : Kd α} {G : α → Prop} {m : α → Nat} {fs : Array Field} (ht : P.underlying t = some (.struct fs)) (hc : P.cellsOf t = K.sz) (hF : OpensMF P fs.toList 0 K G m) : OpensM P t K G (fun x => m x + 1) := by
  constructor
  intro H enc W base spare held fuel cs d ps h hw
  obtain ⟨xs, n, rfl, hx, hcs, hxs, hf⟩ := DataW.trod_struct ht h
  obtain ⟨rfl, _⟩ := Prod.mk.inj hx
  have := hF.go (enc := enc) (W := W) (base := base) (spare := spare) (held := held) (fuel := n) (cs := cs) (xs := xs) (by omega) (by simpa using hxs) (fun i f hi => hf i f (by simpa using hi))
    (fun n hn => hw n (by simpa [DataW.weights, ht] using hn))
  obtain ⟨x, h1, h2, h3⟩ := this
  exact ⟨x, by simpa using h1, h2, by simp only [Rows.uptoBulk]; omega⟩
theorem opensM_iso {α β : Type} {K : Kd α} {G : α → Prop} {m : α → Nat} (f : β → α) (g : α → β) (hfg : ∀ x, f (g x) = x) (h : OpensM P t K G m) : OpensM P t (Kd.iso K f) (fun x => G (f x)) (fun x => m (f x)) := by
  constructor
  intro H enc W base spare held fuel cs d ps hd hw
  obtain ⟨x, hk, hx, hm⟩ := h.go hd hw
  refine ⟨g x, ?_, by show G (f (g x)); rw [hfg]; exact hx, by rw [hfg]; exact hm⟩
  show K.K W (f (g x)) cs
  rw [hfg]; exact hk
theorem OpensM.mono {α : Type} {K : Kd α} {G G' : α → Prop} {m m' : α → Nat} (h : OpensM P t K G m) (hG : ∀ x, G x → G' x) (hm : ∀ x, m' x ≤ m x) : OpensM P t K G' m' := ⟨fun hd hw => by
  obtain ⟨x, hk, hx, h2⟩ := h.go hd hw
  exact ⟨x, hk, hG x hx, Nat.le_trans (hm x) h2⟩⟩
/-- Down from a row's weights and its bulk, a slice. -/
theorem opensM_slice_arg {α : Type} {K : Kd α} {G : List α → Prop} {m : List α → Nat} (hO : OpensM P t (Kd.slice e K) G m) {H : Type} {enc : TypeId × Value → H} {W : World} {base : Nat} {spare : Nat → Bool} {held : Bool} {a : Option Addr} {len cap : Nat} {d : DataW H} {ps : List MemPlace} {ts : List TypeId} {ds : List (DataW H)} {j : Nat}
    (hsz : (DataW.weightsEach P ts ds).all (· ≤ reachBytes) = true) (hk : Rows.uptoBulkAll ds ≤ 1048576) (ht : ts[j]? = some t) (hd : ds[j]? = some d) (h : DataW.Trod enc P W base spare held t (.slice a len cap) d ps) : ∃ xs, len = xs.length ∧ len ≤ cap ∧ K.C W a xs.length xs ∧ G xs ∧ m xs ≤ 1048576 := by
  obtain ⟨fuel, hf⟩ := h
  obtain ⟨xs, ⟨A, c, hcs, hl, hC⟩, hg, hm⟩ := hO.go hf (fun n hn => by
    have := List.all_eq_true.1 hsz _ (DataW.weights_mem_each ht hd n hn)
    simpa using this)
  simp [Value.cells] at hcs
  obtain ⟨rfl, rfl, rfl⟩ := hcs
  exact ⟨xs, rfl, hl, hC, hg, Nat.le_trans hm (Nat.le_trans (bulk_mem hd) hk)⟩
end
end Go.Proofs.Ytekhmkfiepnnkaa

/- Rows of records, opened with a measure. -/
set_option linter.unusedVariables false
set_option linter.unusedSimpArgs false
namespace Go.Proofs.Ytekhmkfiepnnkaa
open Go.RowKit Go.Proofs.YtekhmkfiepnnkaaW.PrintWords

theorem opensM_recs : OpensM Try.prog 36 (Kd.slice 28 KRec) (fun xs => (∀ x ∈ xs, x.ok) ∧ xs.length * 48 ≤ 140737488351232) (fun xs => (xs.map (fun _ => 1)).sum + 1) :=
  opensM_slice Try.underlying36 (by kernel_rfl) (by kernel_rfl) (opens_rec.one)
theorem ones_len {α : Type} {N : Nat} : ∀ {l : List α}, (l.map (fun _ => 1)).sum + 1 ≤ N → l.length ≤ N
  | [], _ => by simp
  | x :: l, h => by
    simp only [List.map_cons, List.sum_cons] at h
    obtain ⟨M, rfl⟩ : ∃ M, N = M + 1 := ⟨N - 1, by omega⟩
    have := ones_len (l := l) (N := M) (by omega)
    simp only [List.length_cons]
    omega
end Go.Proofs.Ytekhmkfiepnnkaa

/- Package foundrylaw22: an operation without disks; operations as arguments (of SealPlays). -/
set_option linter.unusedVariables false
set_option linter.unusedSimpArgs false
namespace Go.Proofs.Ytekhmkfiepnnkaa
open Go.RowKit Go.Proofs.YtekhmkfiepnnkaaW.PrintWords Go.Proofs.YtekhmkfiepnnkaaW.PrintMore

abbrev NilOut (w : World) (e : Ending) (w' : World) : Prop := e = .returned (.bool true) ∧ Below w.heap.size w w'
set_option maxRecDepth 100000 in
set_option maxHeartbeats 4000000 in
theorem nil3 {w : World} {A : Option Addr} {c : Nat} (o : OP22) (hk : o.kind = 3) :
  Calls Try.prog 33 #[.pointer none, .pointer none, .agg (opArr o A c)] w (NilOut w) := by
  have k1 : (o.kind == 1) = false := by rw [hk]; decide
  have k2 : (o.kind == 2) = false := by rw [hk]; decide
  have k3 : (o.kind == 3) = true := by rw [hk]; decide
  have hB1 := below_alloc (Below.refl w.heap.size w) (.cells (opArr o A c) 65)
  have hx := bx_new w o A c
  clear hk
  go_enter Try.func33, Try.ntmps33
  go_wp2_with fail
  generalize w.alloc (.cells (opArr o A c) 65) = w1 at hB1 hx ⊢
  refine (gen_nil o.base o.end_).mono ?_
  rintro e w2 ⟨rfl, rfl⟩
  have g1 := hx.c1
  have g2 := hx.c2
  clear hx
  go_wp2_with fail
  refine (rgen_nil o.base o.end_).mono ?_
  rintro e w3 ⟨rfl, b3⟩
  have HF := hid (below_step hB1 b3)
  clear g1 g2 b3 hB1
  go_wp2
  go_ret
  exact ⟨rfl, HF.out⟩
set_option maxRecDepth 100000 in
set_option maxHeartbeats 4000000 in
theorem nil2 {w : World} {A : Option Addr} {c : Nat} (o : OP22) (hk : o.kind = 2) :
  Calls Try.prog 33 #[.pointer none, .pointer none, .agg (opArr o A c)] w (NilOut w) := by
  have k1 : (o.kind == 1) = false := by rw [hk]; decide
  have k2 : (o.kind == 2) = true := by rw [hk]; decide
  have hB1 := below_alloc (Below.refl w.heap.size w) (.cells (opArr o A c) 65)
  have hx := bx_new w o A c
  have hc := read_nilD (w := w.alloc (.cells (opArr o A c) 65)) o.base o.end_ o.gen o.at_
  have hc2 := fun (W : World) => rread_nilD (w := W) o.base o.end_ o.gen o.at_
  unfold ReadPost recV at hc hc2
  simp only [Option.getD_none, Option.isSome_none] at hc hc2
  generalize noR = R0 at hc hc2
  have HC2 := hid hc2
  clear hk hc2
  go_enter Try.func33, Try.ntmps33
  go_wp2_with fail
  generalize w.alloc (.cells (opArr o A c) 65) = w1 at hB1 hx hc ⊢
  refine hc.mono ?_
  rintro e w2 ⟨A2, c2, rfl, hR2, hle2, b2⟩
  clear hc
  have b3 := below_alloc b2 (.cells #[.int .u64 R0.gen, .int .i64 R0.at_, .int .i64 R0.kind, .slice A2 R0.bytes.length c2] 25)
  have hn3 := heap_alloc_new w2 (.cells #[.int .u64 R0.gen, .int .i64 R0.at_, .int .i64 R0.kind, .slice A2 R0.bytes.length c2] 25)
  have hC3 := (Kd.R_reads' (Kd.R_alloc hR2 (.cells #[.int .u64 R0.gen, .int .i64 R0.at_, .int .i64 R0.kind, .slice A2 R0.bytes.length c2] 25))).2.2
  go_upto_region 6 with (fail)
  clear hR2 b2
  generalize w2.alloc (.cells #[.int .u64 R0.gen, .int .i64 R0.at_, .int .i64 R0.kind, .slice A2 R0.bytes.length c2] 25) = w3 at b3 hn3 hC3 ⊢
  have hx3 := hx.below b3
  have g1 := hx3.c1
  have g2 := hx3.c2
  have g3 := hx3.c3
  have g4 := hx3.c4
  have hc3 := HC2.out w3
  clear HC2 hx hx3
  go_wp2_with fail
  refine hc3.mono ?_
  rintro e w4 ⟨A4, c4, rfl, hR4, hle4, b4⟩
  clear hc3 g1 g2 g3 g4
  have b5 := below_alloc b4 (.cells #[.int .u64 R0.gen, .int .i64 R0.at_, .int .i64 R0.kind, .slice A4 R0.bytes.length c4] 28)
  have hn5 := heap_alloc_new w4 (.cells #[.int .u64 R0.gen, .int .i64 R0.at_, .int .i64 R0.kind, .slice A4 R0.bytes.length c4] 28)
  have hC5 := (Kd.R_reads' (Kd.R_alloc hR4 (.cells #[.int .u64 R0.gen, .int .i64 R0.at_, .int .i64 R0.kind, .slice A4 R0.bytes.length c4] 28))).2.2
  have hn35 := (b5.block _ (blk_lt hn3)).trans hn3
  have hC35 := Kd.C_below hC3 b5
  have hBn := hB1.trans ((b3.trans (b5.mono b3.size)).mono hB1.size)
  go_upto_region 7 with (fail)
  clear hR4 b4 b5 b3 hn3 hC3 hB1
  generalize w4.alloc (.cells #[.int .u64 R0.gen, .int .i64 R0.at_, .int .i64 R0.kind, .slice A4 R0.bytes.length c4] 28) = w5 at hn5 hC5 hn35 hC35 hBn ⊢
  have m0 := cell_of_row _ _ 0 _ _ _ hn35
  have m1 := cell_of_row _ _ 1 _ _ _ hn35
  have m2 := cell_of_row _ _ 2 _ _ _ hn35
  have m3 := cell_of_row _ _ 3 _ _ _ hn35
  have s0 := cell_of_row _ _ 0 _ _ _ hn5
  have s1 := cell_of_row _ _ 1 _ _ _ hn5
  have s2 := cell_of_row _ _ 2 _ _ _ hn5
  have s3 := cell_of_row _ _ 3 _ _ _ hn5
  simp at m0 m1 m2 m3 s0 s1 s2 s3
  have hsm := sameRecord_true R0 hC35 hle2 hC5 hle4
  unfold recV at hsm
  clear hn5 hn35 hC5 hC35
  go_wp2_with fail
  refine hsm.mono ?_
  rintro e w6 ⟨rfl, b6⟩
  have HF := hid (below_step hBn b6)
  clear hsm m0 m1 m2 m3 s0 s1 s2 s3 b6 hBn
  go_wp2
  go_ret
  exact ⟨rfl, HF.out⟩
set_option maxRecDepth 100000 in
set_option maxHeartbeats 4000000 in
theorem nil1 {w : World} {A : Option Addr} {c : Nat} (o : OP22) (hk : o.kind = 1) (hC : KB.C w A o.r.bytes.length o.r.bytes) (hle : o.r.bytes.length ≤ c) (hl : o.r.bytes.length < 140737488355328) :
  Calls Try.prog 33 #[.pointer none, .pointer none, .agg (opArr o A c)] w (NilOut w) := by
  have k1 : (o.kind == 1) = true := by rw [hk]; decide
  have hB1 := below_alloc (Below.refl w.heap.size w) (.cells (opArr o A c) 65)
  have hx := bx_new w o A c
  have hC1 := Kd.C_below hC hB1
  clear hk hC
  go_enter Try.func33, Try.ntmps33
  go_wp2_with fail
  generalize w.alloc (.cells (opArr o A c) 65) = w1 at hB1 hx hC1 ⊢
  refine wp_region_plan [] (.take 0 (.take 1 (.take 2 (.take 3 (.take 4 (.take 7 (.take 8 (.take 9 (.take 10 (.take 11 (.run 5 (.run 6 (.run 12 (.take 13 (.take 14 .done))))))))))))))) (fun w' => Bx w' w.heap.size o A c) (by kernel_rfl) (by kernel_rfl) (fun c a d v w h => by cases d <;> exact h) (hx.below (below_drew (Below.refl _ _))) ?_
  (apply plan_take rfl rfl; (case hy => (intro w' hS; have s0 := hS.c0; have s1 := hS.c1; have s2 := hS.c2; have s3 := hS.c3; have s8 := hS.c8; clear hS; go_simp; try exact rfl)); go_simp); (apply plan_take rfl rfl; (case hy => (intro w' hS; have s0 := hS.c0; have s1 := hS.c1; have s2 := hS.c2; have s3 := hS.c3; have s8 := hS.c8; clear hS; go_simp; try exact rfl)); go_simp); (apply plan_take rfl rfl; (case hy => (intro w' hS; have s0 := hS.c0; have s1 := hS.c1; have s2 := hS.c2; have s3 := hS.c3; have s8 := hS.c8; clear hS; go_simp; try exact rfl)); go_simp); (apply plan_take rfl rfl; (case hy => (intro w' hS; have s0 := hS.c0; have s1 := hS.c1; have s2 := hS.c2; have s3 := hS.c3; have s8 := hS.c8; clear hS; go_simp; try exact rfl)); go_simp)
  apply plan_take rfl rfl
  case hy => (intro w' hS; exact exec_load_row 28 (.tmp 24) rfl ⟨w.heap.size, 5, none⟩ rfl [.int .u64 o.r.gen, .int .i64 o.r.at_, .int .i64 o.r.kind, .slice A o.r.bytes.length c] _ hS.rec_ Try.underlying28 rfl (by kernel_rfl))
  go_simp
  (apply plan_take rfl rfl; (case hy => (intro w' hS; have s0 := hS.c0; have s1 := hS.c1; have s2 := hS.c2; have s3 := hS.c3; have s8 := hS.c8; clear hS; go_simp; try exact rfl)); go_simp); (apply plan_take rfl rfl; (case hy => (intro w' hS; have s0 := hS.c0; have s1 := hS.c1; have s2 := hS.c2; have s3 := hS.c3; have s8 := hS.c8; clear hS; go_simp; try exact rfl)); go_simp); (apply plan_take rfl rfl; (case hy => (intro w' hS; have s0 := hS.c0; have s1 := hS.c1; have s2 := hS.c2; have s3 := hS.c3; have s8 := hS.c8; clear hS; go_simp; try exact rfl)); go_simp); (apply plan_take rfl rfl; (case hy => (intro w' hS; have s0 := hS.c0; have s1 := hS.c1; have s2 := hS.c2; have s3 := hS.c3; have s8 := hS.c8; clear hS; go_simp; try exact rfl)); go_simp)
  apply plan_take rfl rfl
  case hy => (intro w' hS; exact exec_load_row 28 (.tmp 31) rfl ⟨w.heap.size, 5, none⟩ rfl [.int .u64 o.r.gen, .int .i64 o.r.at_, .int .i64 o.r.kind, .slice A o.r.bytes.length c] _ hS.rec_ Try.underlying28 rfl (by kernel_rfl))
  go_simp
  have hmn := mine_any (w := w1.drew) o.r (Kd.C_below hC1 (below_drew (Below.refl _ _))) hle hl
  unfold recV at hmn
  refine plan_run_on rfl rfl (fun K hK => ?_)
  go_simp
  refine hmn.mono ?_
  rintro e w2 ⟨A2, c2, rfl, hR2, hle2, b2⟩
  have b12 : Below w1.heap.size w1 w2 := below_step (below_drew (Below.refl w1.heap.size w1)) b2
  refine hK _ _ _ (fun _ h => h) (hx.below b12) ?_
  clear hK K hmn
  go_simp
  have hsw := seal_nil (w := w2) (A := A2) (c := c2) o.base o.r
  unfold recV at hsw
  refine plan_run_on rfl rfl (fun K hK => ?_)
  go_simp
  refine hsw.mono ?_
  rintro e w3 ⟨rfl, b3⟩
  have b13 := below_step b12 b3
  refine hK _ _ _ (fun _ h => h) (hx.below b13) ?_
  clear hK K hsw
  go_simp
  have hrw := rwnil_any (w := w3) (A := A) (c := c) o.base o.r
  unfold recV at hrw
  refine plan_run_on rfl rfl (fun K hK => ?_)
  go_simp
  refine hrw.mono ?_
  rintro e w4 ⟨rfl, b4⟩
  have b14 := below_step b13 b4
  refine hK _ _ _ (fun _ h => h) (hx.below b14) ?_
  clear hK K hrw
  go_simp
  iterate 2 (apply plan_take rfl rfl; (case hy => (intro w' hS; clear hS; go_simp; try exact rfl)); go_simp)
  refine plan_done ?_
  have HF := hid (hB1.trans (b14.mono hB1.size))
  clear b14 b13 b12 b2 b3 b4 hB1 hx hR2 hC1
  go_wp2
  go_ret
  exact ⟨rfl, HF.out⟩
theorem nil_any {w : World} {A : Option Addr} {c : Nat} (o : OP22) (hk : 1 ≤ o.kind ∧ o.kind ≤ 3) (hC : KB.C w A o.r.bytes.length o.r.bytes) (hle : o.r.bytes.length ≤ c) (hl : o.r.bytes.length < 140737488355328) :
  Calls Try.prog 33 #[.pointer none, .pointer none, .agg (opArr o A c)] w (NilOut w) := by
  by_cases h1 : o.kind = 1
  · exact nil1 o h1 hC hle hl
  by_cases h2 : o.kind = 2
  · exact nil2 o h2
  exact nil3 o (by omega)
abbrev KOp22 : Kd OP22 := Kd.iso (Kd.pair (Kd.int .i64) (Kd.pair (Kd.int .i64) (Kd.pair (Kd.int .i64) (Kd.pair (Kd.int .i64) (Kd.pair (Kd.int .u64) KRec))))) (fun x : OP22 => (x.kind, x.base, x.end_, x.at_, x.gen, x.r))
theorem KOp22_open {w : World} {o : OP22} {cs : List Value} (h : KOp22.K w o cs) : ∃ A c, cs = (opArr o A c).toList ∧ o.r.bytes.length ≤ c ∧ KB.C w A o.r.bytes.length o.r.bytes := by
  obtain ⟨c0, cs1, rfl, h0, c1, cs2, rfl, h1, c2, cs3, rfl, h2, c3, cs4, rfl, h3, c4, c5, rfl, h4, h5⟩ := h
  obtain rfl : c0 = [.int .i64 o.kind] := h0
  obtain rfl : c1 = [.int .i64 o.base] := h1
  obtain rfl : c2 = [.int .i64 o.end_] := h2
  obtain rfl : c3 = [.int .i64 o.at_] := h3
  obtain rfl : c4 = [.int .u64 o.gen] := h4
  obtain ⟨A, c, rfl, hl, hC⟩ := KRec_open h5
  exact ⟨A, c, rfl, hl, hC⟩
theorem op22_at {w : World} {ad : Addr} {l : List OP22} (h : KOp22.C w (some ad) l.length l) {i : Nat} (hi : i < l.length) :
    ∃ A c, (∀ j v, ((opArr l[i] A c).toList)[j]? = some v → w.cell? ((ad.add (i * 9)).add j) = some v) ∧ l[i].r.bytes.length ≤ c ∧ KB.C w A l[i].r.bytes.length l[i].r.bytes := by
  obtain ⟨ad', cs, hA, hcs, hK, hcell⟩ := Kd.C_get h ⟨0, 0, 0, 0, 0, ⟨0, 0, 0, []⟩⟩ (i : Int) (by omega) (by omega)
  injection hA with hA
  subst hA
  simp only [Int.toNat_natCast] at hK hcell
  have hget : l.getD i ⟨0, 0, 0, 0, 0, ⟨0, 0, 0, []⟩⟩ = l[i] := by simp [List.getD_eq_getElem?_getD, hi]
  rw [hget] at hK
  obtain ⟨A, c, rfl, hl, hC⟩ := KOp22_open hK
  refine ⟨A, c, fun j v hj => ?_, hl, hC⟩
  have h3 := hcell j v hj
  rw [add_add']
  exact h3
theorem opens_op22 : Opens Try.prog 65 KOp22 OP22.ok := by
  refine (opens_iso (P := Try.prog) (t := 65) (fun x : OP22 => (x.kind, x.base, x.end_, x.at_, x.gen, x.r)) (fun p => ⟨p.1, p.2.1, p.2.2.1, p.2.2.2.1, p.2.2.2.2.1, p.2.2.2.2.2⟩) (fun _ => rfl)
    (opens_struct Try.underlying65 (by kernel_rfl) (opensF_cons rfl (by kernel_rfl) (opens_int Try.underlying3) (opensF_cons rfl (by kernel_rfl) (opens_int Try.underlying3) (opensF_cons rfl (by kernel_rfl) (opens_int Try.underlying3) (opensF_cons rfl (by kernel_rfl) (opens_int Try.underlying3)
      (opensF_cons rfl (by kernel_rfl) (opens_int Try.underlying23) (opensF_one rfl (by kernel_rfl) opens_rec)))))))).mono ?_
  rintro o ⟨h0, h1, h2, h3, h4, h5⟩
  have b0 := bounds_i64 h0
  have b1 := bounds_i64 h1
  have b2 := bounds_i64 h2
  have b3 := bounds_i64 h3
  have b4 := bounds_u64 h4
  dsimp only at b4
  exact ⟨b0, b1, b2, b3, by omega, h5⟩
theorem opensM_ops22 : OpensM Try.prog 57 (Kd.slice 65 KOp22) (fun xs => (∀ x ∈ xs, x.ok) ∧ xs.length * 88 ≤ 140737488351232) (fun xs => (xs.map (fun _ => 1)).sum + 1) :=
  opensM_slice Try.underlying57 (by kernel_rfl) (by kernel_rfl) (opens_op22.one)
end Go.Proofs.Ytekhmkfiepnnkaa

/- Package foundrylaw22: SealPlays, walked. -/
set_option linter.unusedVariables false
set_option linter.unusedSimpArgs false
namespace Go.Proofs.Ytekhmkfiepnnkaa
open Go.RowKit Go.Proofs.YtekhmkfiepnnkaaW.PrintWords Go.Proofs.YtekhmkfiepnnkaaW.PrintMore

theorem RB_lt {w : World} {A : Option Addr} {b : List Int} (h : KB.C w A b.length b) : ∀ w', Below w.heap.size w w' → RB w' (fun k => k < w.heap.size) A b := fun _ hb => RB_below (RB_of_C h) hb
set_option maxRecDepth 100000 in
set_option maxHeartbeats 4000000 in
theorem sealPlays_any {w : World} {A : Option Addr} {c : Nat} {l : List OP22} (n : Int) (hn : -9223372036854775808 ≤ n ∧ n ≤ 9223372036854775807) (hC : KOp22.C w A l.length l) (hok : ∀ x ∈ l, x.ok) (hl : l.length ≤ 1048576) :
  Calls Try.prog 8 #[.int .i64 n, .slice A l.length c] w fun e w' => e = .returned (.bool true) ∧ Below w.heap.size w w' := by
  obtain ⟨n1, hn1⟩ : ∃ n1 : Nat, (if n < 0 then -(n + 1) else n) = (n1 : Int) := ⟨(if n < 0 then -(n + 1) else n).toNat, by split <;> omega⟩
  have HC := hid hC
  have HOK := hid hok
  clear hC hok
  go_enter Try.func8, Try.ntmps8
  go_upto_if 11 with (fail)
  go_cut [0] (fun v0 wc => v0 = .int .i64 (n1 : Int) ∧ wc = w)
  case first =>
    by_cases hneg : n < 0
    · rw [if_pos hneg] at hn1
      have hw1 : IntKind.i64.wrap (n + 1) = n + 1 := by rw [IntKind.wrap_i64]; omega
      have hw2 : IntKind.i64.wrap (-(n + 1)) = -(n + 1) := by rw [IntKind.wrap_i64]; omega
      have HN := hid hn1
      clear hn1
      go_wp2
      go_meet
      case rel => exact ⟨by rw [← HN.out], rfl⟩
    · rw [if_neg hneg] at hn1
      have HN := hid hn1
      clear hn1
      go_wp2
      go_meet
      case rel => exact ⟨by rw [HN.out], rfl⟩
  case rest =>
    obtain ⟨rfl, hwc⟩ := hcut
    have hwc2 := hwc.symm
    clear hwc
    subst hwc2
    obtain ⟨m, hm⟩ : ∃ m, n1 % 32 = m := ⟨_, rfl⟩
    have hml : m < 32 := by omega
    have hm1 : (n1 : Int) % 32 = (m : Int) := by omega
    have hm2 : Int.tmod (n1 : Int) 32 = (m : Int) := by rw [Int.tmod_eq_emod_of_nonneg (by omega)]; exact hm1
    have hw3 : IntKind.i64.wrap (m : Int) = (m : Int) := by rw [IntKind.wrap_i64]; omega
    have hw4 : IntKind.i64.wrap (16 + (m : Int)) = 16 + (m : Int) := by rw [IntKind.wrap_i64]; omega
    have hno := new_ok (w := w) (16 + m) (by omega) (by omega)
    have hrn := fun W => rnew_ok (w := W) (16 + m) (by omega) (by omega)
    rw [show ((16 + m : Nat) : Int) = 16 + (m : Int) from by omega] at hno hrn
    clear hm hn1 hn
    go_wp2_with fail
    refine hno.mono ?_
    rintro e w1 ⟨rfl, hd1, b1⟩
    have s1 := b1.size
    go_wp2_with fail
    refine (hrn w1).mono ?_
    rintro e w2 ⟨rfl, ht2, b2⟩
    have s2 := b2.size
    have hd2 := hd1.bound.step (w1 := w2) (fun k _ hk => b2.block k hk)
    clear hno hrn
    go_wp2_with fail
    refine live_any.mono ?_
    rintro e w3 ⟨rfl, b3⟩
    have s3 := b3.size
    have hd3 := hd2.step (w1 := w3) (fun k _ hk => b3.block k hk)
    have ht3 := ht2.bound.step (w1 := w3) (fun k _ hk => b3.block k hk)
    have hbo : Both w.heap.size w3 (w.heap.size + 1) (w1.heap.size + 1) (DM.new (16 + m)) := ⟨_, _, hd3, ht3, fun k h1 h2 => by omega, fun k hk => by omega, fun k hk => by omega⟩
    have t3 : Below w.heap.size w w3 := b1.trans ((b2.mono s1).trans (b3.mono (by omega)))
    have h00 : (DM.new (16 + m)).ws.length ≤ 0 := Nat.le_refl 0
    generalize DM.new (16 + m) = D0 at hbo h00
    generalize w.heap.size + 1 = p at hbo ⊢
    generalize w1.heap.size + 1 = q at hbo ⊢
    clear hd1 hd2 hd3 ht2 ht3 b1 b2 b3 hm1 hm2 hw3 hw4
    go_wp2_with fail
    go_loopw [9] (fun i wr => ∃ (k : Nat) (D : DM), k ≤ l.length ∧ i = .int .i64 k ∧ Both w.heap.size wr p q D ∧ D.ws.length ≤ k * 65536 ∧ Below w.heap.size w wr) (fun i _ => l.length - (intOf i).toNat)
    case atStart => exact ⟨0, D0, Nat.zero_le _, rfl, hbo, by omega, t3⟩
    case round =>
      clear hbo t3 h00
      obtain ⟨k, D, hk, rfl, hb, hlen, hB⟩ := hrel
      by_cases hlt : k < l.length
      · have hltI : (k : Int) < (l.length : Int) := by omega
        cases A with
        | none =>
          have := C_none HC.out
          subst this
          simp at hlt
        | some ad =>
        obtain ⟨A1, c1, hcell, hle1, hC1⟩ := op22_at HC.out hlt
        have ho := HOK.out l[k] (List.getElem_mem hlt)
        obtain ⟨o, hol⟩ : ∃ o, l[k] = o := ⟨_, rfl⟩
        rw [hol] at hcell hle1 hC1 ho
        clear hol
        have hcw : ∀ (W : World), Below w.heap.size w W → ∀ j v, ((opArr o A1 c1).toList)[j]? = some v → W.cell? ((ad.add (k * 9)).add j) = some v := fun W hW j v hj => pw_cell_below hW (hcell j v hj)
        have hk0 : ∀ (W : World), Below w.heap.size w W → W.cell? (ad.add (k * 9)) = some (.int .i64 o.kind) := fun W hW => by
          have := hcw W hW 0 _ rfl
          simpa [Addr.add] using this
        have HCW := hid hcw
        have HK0 := hid hk0
        clear hcw hk0 hcell
        have hs := hB.size
        have hC2 := RB_lt hC1
        have hone := one_any (A := A1) (c := c1) o ho hb hs (fun w' hw => hC2 w' (hB.trans hw)) hle1 (by omega)
        have HH := hid (And.intro (HCW.out wr hB) hle1)
        have hol := ho.r.l
        clear hb
        go_wp2_with (refine wpList_load_addr rfl 65 (.tmp 49) rfl (ad.add (k * 9)) rfl (opArr o A1 c1).toList _ HH.out.1 Try.underlying65 rfl (by kernel_rfl) ?_)
        refine hone.mono ?_
        rintro e w4 ⟨rfl, ⟨D', hb4, hl4⟩, b4⟩
        have t4 := hB.trans b4
        have hk4 := HK0.out w4 t4
        clear hone
        by_cases c1' : 1 ≤ o.kind
        · by_cases c2' : o.kind ≤ 3
          · have hni := nil_any (w := w4) (A := A1) (c := c1) o ⟨c1', c2'⟩ (Kd.F_now (hC2 w4 t4)) hle1 (by omega)
            have q1 : w4.cell? ⟨(ad.add (k * 9)).block, (ad.add (k * 9)).off + 1, none⟩ = some (.int .i64 o.base) := HCW.out w4 t4 1 _ rfl
            have q2 : w4.cell? ⟨(ad.add (k * 9)).block, (ad.add (k * 9)).off + 2, none⟩ = some (.int .i64 o.end_) := HCW.out w4 t4 2 _ rfl
            have q3 : w4.cell? ⟨(ad.add (k * 9)).block, (ad.add (k * 9)).off + 3, none⟩ = some (.int .i64 o.at_) := HCW.out w4 t4 3 _ rfl
            have q4 : w4.cell? ⟨(ad.add (k * 9)).block, (ad.add (k * 9)).off + 4, none⟩ = some (.int .u64 o.gen) := HCW.out w4 t4 4 _ rfl
            have q5 : w4.cell? ⟨(ad.add (k * 9)).block, (ad.add (k * 9)).off + 5, none⟩ = some (.int .u64 o.r.gen) := HCW.out w4 t4 5 _ rfl
            have q6 : w4.cell? ⟨(ad.add (k * 9)).block, (ad.add (k * 9)).off + 6, none⟩ = some (.int .i64 o.r.at_) := HCW.out w4 t4 6 _ rfl
            have q7 : w4.cell? ⟨(ad.add (k * 9)).block, (ad.add (k * 9)).off + 7, none⟩ = some (.int .i64 o.r.kind) := HCW.out w4 t4 7 _ rfl
            have q8 : w4.cell? ⟨(ad.add (k * 9)).block, (ad.add (k * 9)).off + 8, none⟩ = some (.slice A1 o.r.bytes.length c1) := HCW.out w4 t4 8 _ rfl
            go_wp2_with fail
            refine hni.mono ?_
            rintro e w5 ⟨rfl, b5⟩
            have HF := hid (And.intro (hb4.below b5) (below_step t4 b5))
            clear hni hk4 hb4 b4 b5 t4 hB hC2 hC1 q1 q2 q3 q4 q5 q6 q7 q8
            go_wp2
            go_roundw
            case rel => exact ⟨k + 1, D', by omega, by go_num, HF.out.1, by omega, HF.out.2⟩
            case measure => simp [intOf]; omega
          · have HF := hid (And.intro hb4 t4)
            clear hb4 b4 t4 hB hC2 hC1
            go_wp2
            go_roundw
            case rel => exact ⟨k + 1, D', by omega, by go_num, HF.out.1, by omega, HF.out.2⟩
            case measure => simp [intOf]; omega
        · have HF := hid (And.intro hb4 t4)
          clear hb4 b4 t4 hB hC2 hC1
          go_wp2
          go_roundw
          case rel => exact ⟨k + 1, D', by omega, by go_num, HF.out.1, by omega, HF.out.2⟩
          case measure => simp [intOf]; omega
      · have hltI : ¬ (k : Int) < (l.length : Int) := by omega
        obtain ⟨okd, okt, hd, ht, hap, hed, het⟩ := hb
        obtain ⟨hwf, g, cap, wv, hr⟩ := ht
        have c0 := hr.cell0
        have himg := image_any (w := wr.drew) (hd.step (fun _ _ _ => rfl))
        have hRr : KB.R 5 wr 0 (fun _ => True) (.slice (some ⟨g, 0, none⟩) D.b.length cap) D.b := Kd.R_of_own hr.row (fun _ _ => trivial)
        have hcl := (Kd.R_reads' hRr).2.1
        have hbb := hwf.bytes
        go_wp2_with fail
        refine wp_region_plan [] (.take 0 (.take 2 (.take 3 (.take 4 (.take 5 (.run 1 (.run 6 (.take 7 .done)))))))) (fun w' => w'.cell? ⟨q, 0, none⟩ = some (.slice (some ⟨g, 0, none⟩) D.b.length cap)) (by kernel_rfl) (by kernel_rfl) (fun c a d v w h => by cases d <;> exact h) c0 ?_
        iterate 5 (apply plan_take rfl rfl; (case hy => (intro w' hS; have s1 := hS; clear hS; go_simp; try exact rfl)); go_simp)
        refine plan_run_on rfl rfl (fun K hK => ?_)
        go_simp
        refine himg.mono ?_
        rintro e w4 ⟨A4, c4, rfl, hR4, b4⟩
        have b04 : Below wr.heap.size wr w4 := below_step (below_drew (Below.refl wr.heap.size wr)) b4
        refine hK _ _ _ (fun _ h => h) ((b04.cell (World.block_lt_of_cell? _ _ c0)).trans c0) ?_
        clear hK K himg
        go_simp
        have hsb := sameBytes_any (w := w4) (Kd.R_reads' hR4).2.2 hbb (Kd.R_reads' hR4).2.1 (Kd.C_below (Kd.R_reads' hRr).2.2 b04) hbb hcl
        rw [decide_eq_true (rfl : D.b = D.b)] at hsb
        refine plan_run_on rfl rfl (fun K hK => ?_)
        go_simp
        refine hsb.mono ?_
        rintro e w5 ⟨rfl, b5⟩
        have b05 := below_step b04 b5
        refine hK _ _ _ (fun _ h => h) ((b05.cell (World.block_lt_of_cell? _ _ c0)).trans c0) ?_
        clear hK K hsb
        go_simp
        apply plan_take rfl rfl
        case hy => (intro w' hS; clear hS; go_simp; try exact rfl)
        go_simp
        refine plan_done ?_
        have HF := hid (below_step hB b05)
        clear hd hr c0 hRr hR4 b04 b05 b4 b5 hB
        go_wp2
        go_ret
        exact ⟨rfl, HF.out⟩
end Go.Proofs.Ytekhmkfiepnnkaa
namespace Go.Proofs.Ytekhmkfiepnnkaa
open Go.RowKit Go.Proofs.YtekhmkfiepnnkaaW.PrintWords
theorem sealPlays_row {w : World} {A : Option Addr} {c : Nat} {l : List OP22} (n : Int) (hn : (Lit.int .i64 n).wf = true) (hC : KOp22.C w A l.length l) (hok : ∀ x ∈ l, x.ok) (hl : l.length ≤ 1048576) :
    Calls Try.prog 8 #[.int .i64 n, .slice A l.length c] w fun e w' => e = .returned (.bool true) ∧ Below w.heap.size w w' := sealPlays_any n (by have := bounds_i64 hn; omega) hC hok hl
end Go.Proofs.Ytekhmkfiepnnkaa

set_option linter.unusedVariables false
set_option linter.unusedSimpArgs false
namespace Go.Proofs.Ytekhmkfiepnnkaa
open Go.ChangeShapes Go.WideShapes Go.ChangeAt Go.RowKit Go.Proofs.YtekhmkfiepnnkaaW.PrintWords
open Go.ChangeMaps (open_string shut_string)
set_option linter.unusedVariables false
theorem sealPlays_own : ownKnob Try.prog.godebug = none := by kernel_rfl
theorem sealPlays_laid : laidOutB Try.prog = true := by kernel_rfl
set_option maxRecDepth 100000 in
theorem sealPlays_contract (H : Type) (enc : TypeId × Value → H) (W : World) (base : Nat) (args : Array Value) (ds gs : List (DataW H)) (before : List MemPlace)
    (hval0 : ∀ (j : Nat) t v, Try.f8.params[j]? = some t → args[j]? = some v → Value.okWide Try.prog W .any base t v)
    (hW : DataW.Whole enc Try.prog Try.f8.params.toList Rows.sealPlaysSpec.vars false W args.toList ds gs before)
    (hsz0 : (DataW.weightsEach Try.prog (Try.f8.params.toList ++ Rows.sealPlaysSpec.plain.varTypes Try.prog) (ds ++ gs)).all (· ≤ reachBytes) = true) (hk0 : Rows.uptoSmall H (ds ++ gs) = true) :
    Calls Try.prog 8 args W fun e W' => ∃ v, e = .returned v ∧ Rows.sealPlaysSpec.post enc Try.prog Try.f8 false true false false W args v W' := by
  have hsz := hsz0
  have hk : Rows.uptoBulkAll (ds ++ gs) ≤ 1048576 := by simpa [Rows.uptoSmall] using hk0
  have hval := hval0
  have hW' := hW
  obtain ⟨p, q, hA0, hV, rfl, hfz, hnd⟩ := hW
  have hA : DataW.TrodAll enc Try.prog W 0 (fun _ => true) true Try.f8.params.toList args.toList ds p := hA0
  rw [Try.params8] at hA hval hsz
  obtain ⟨v0, vs0, d0, ds0, p0, q0, hargs, rfl, rfl, h0, r0⟩ := trodAll_cons hA
  obtain ⟨v1, vs1, d1, ds1, p1, q1, rfl, rfl, rfl, h1, r1⟩ := trodAll_cons r0
  obtain ⟨rfl, rfl, rfl⟩ := trodAll_nil r1
  obtain rfl : args = #[v0, v1] := by cases args; simp_all
  obtain ⟨rfl, rfl⟩ := trodVars_none hV
  obtain ⟨n0, rfl, rfl, rfl, g0⟩ := open_int Try.underlying3 (hval 0 3 v0 rfl rfl) h0
  have lt1 : ∀ x ∈ p1, x.block < W.heap.size := by obtain ⟨m, hm⟩ := h1; exact DataW.trod_lt m _ _ _ hm
  obtain ⟨A1, len1, c1, rfl⟩ := okWide_slice Try.underlying57 (hval 1 57 v1 rfl rfl)
  obtain ⟨l1, rfl, hl1, k1, g1, b1⟩ := opensM_slice_arg opensM_ops22 hsz hk (j := 1) (t := 57) rfl rfl h1
  clear hA0 hval0 hsz0 hsz hk hk0
  refine (sealPlays_row n0 g0 k1 g1.1 (ones_len b1)).mono fun e W' ⟨he, bel⟩ => ?_
  subst he
  exact ⟨_, rfl, _, _, _, [], _, [], hW', trodAll_mk1 (shut_bool Try.underlying4 _), (trodAll_cons_mk (shut_int Try.underlying3 g0) (trodAll_cons_mk (Below.trod sealPlays_laid (by kernel_rfl) (of_decide_eq_true (by kernel_rfl)) h1 bel lt1) trodAll_mk0)), rfl, bel.frame _, fun h => by cases h⟩
set_option maxRecDepth 100000 in
theorem sealPlays_lifted (os : Os) (started : os.Started) (H : Type) (enc : TypeId × Value → H) (F : Stop.Interp) :
    ReturnsInHanded {} Try.checked os 8 .any ((Rows.OpenSpec.upto Rows.sealPlaysSpec).pre6 enc Try.prog Try.f8 Rows.sealPlaysUptoRow.domain false) (((Rows.OpenSpec.upto Rows.sealPlaysSpec).at F).post enc Try.prog Try.f8 false true false false) := by
  refine returnsInHanded_of_cond_sized (C := Try.checked) (s := Rows.OpenSpec.upto Rows.sealPlaysSpec) (k := Rows.uptoSmall) rfl sealPlays_own started (by kernel_rfl) Try.func8
    (OpenSpec.witness (enc := enc) (C := Try.checked) (s := Rows.OpenSpec.upto Rows.sealPlaysSpec) (k := Rows.uptoSmall) rfl false ⟨#[], #[.int .i64 0, .slice none 0 0], []⟩ 8 (by kernel_rfl) (by kernel_rfl) (by kernel_rfl)
      (x := ([.lit (.int .i64 0), .nil], [], [])) (by kernel_rfl) rfl (by kernel_rfl)) ?_
  intro W base args ds gs before hval hW _ hk hsz _
  exact sealPlays_contract H enc W base args ds gs before hval hW hsz hk
theorem sealPlays_over : Rows.sealPlaysUptoRow.holds Try.pinned (Rows.OpenSpec.upto Rows.sealPlaysSpec) :=
  OpenClaim.holds_of_cond 8 Try.f8 rfl rfl rfl rfl rfl rfl rfl ⟨rfl, rfl, rfl, rfl, rfl⟩ rfl rfl rfl rfl rfl (by kernel_rfl) Try.func8 (by kernel_rfl)
    (of_decide_eq_true (by kernel_rfl)) (by unfold Func.isWrapper; first | (rw [if_pos (by decide +kernel)]; kernel_rfl) | (rw [if_neg (by decide +kernel)]; exact ⟨rfl, rfl⟩))
    (fun os started H enc _ F => sealPlays_lifted os started H enc F)
/-- The row, for the claim. -/
theorem sealPlays_holds : Rows.SealPlaysUptoSaid := sealPlays_over
#print axioms sealPlays_holds
end Go.Proofs.Ytekhmkfiepnnkaa
