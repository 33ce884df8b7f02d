/- Package foundrylaw21: does: an Op on both disks. -/
import Derived.Test.YtpgiooheoafieaaSame
import Derived.Test.YtpgiooheoafieaaDiskN
import Derived.Test.YtpgiooheoafieaaLaw21d
set_option linter.unusedVariables false
set_option linter.unusedSimpArgs false
namespace Go.Proofs.Ytpgiooheoafieaa
open Go.RowKit Go.Proofs.YtpgiooheoafieaaW.PrintWords

/-- Both disks, made since B, alike. -/
def Both (B : Nat) (w : World) (p q : Nat) (D : DM) : Prop :=
  ∃ okd okt : Nat → Prop, PDisk w okd p D ∧ RDisk w okt q D ∧ apart okd okt ∧ (∀ k, okd k → B ≤ k ∧ k < w.heap.size) ∧ (∀ k, okt k → B ≤ k ∧ k < w.heap.size)
theorem Both.below {B : Nat} {w w1 : World} {p q : Nat} {D : DM} (h : Both B w p q D) (hb : Below w.heap.size w w1) : Both B w1 p q D := by
  obtain ⟨okd, okt, hd, ht, ha, h1, h2⟩ := h
  have := hb.size
  exact ⟨okd, okt, hd.step (fun k _ hk => hb.block k hk), ht.step (fun k _ hk => hb.block k hk), ha, fun k hk => ⟨(h1 k hk).1, by have := (h1 k hk).2; omega⟩, fun k hk => ⟨(h2 k hk).1, by have := (h2 k hk).2; omega⟩⟩
abbrev opAgg (o : OP) (A : Option Addr) (c : Nat) : Value := .agg #[.int .i64 o.kind, .int .i64 o.at_, .int .i64 o.n, .int .u8 o.fill, .slice A o.bytes.length c, .bool o.odd]
abbrev opObj (o : OP) (A : Option Addr) (c : Nat) : Obj := .cells #[.int .i64 o.kind, .int .i64 o.at_, .int .i64 o.n, .int .u8 o.fill, .slice A o.bytes.length c, .bool o.odd] 31
/-- The copy of the Op, in its own block. -/
structure Boxed (w : World) (b : Nat) (o : OP) (A : Option Addr) (c : Nat) : Prop where
  f0 : w.cell? ⟨b, 0, none⟩ = some (.int .i64 o.kind)
  f1 : w.cell? ⟨b, 1, none⟩ = some (.int .i64 o.at_)
  f2 : w.cell? ⟨b, 2, none⟩ = some (.int .i64 o.n)
  all : ∀ j v, (o.cells A c)[j]? = some v → w.cell? ((⟨b, 0, none⟩ : Addr).add j) = some v
theorem boxed_new (w : World) (o : OP) (A : Option Addr) (c : Nat) : Boxed (w.alloc (opObj o A c)) w.heap.size o A c := by
  have h := heap_alloc_new w (opObj o A c)
  refine ⟨by rw [cell_of_row _ _ 0 _ _ _ h]; rfl, by rw [cell_of_row _ _ 1 _ _ _ h]; rfl, by rw [cell_of_row _ _ 2 _ _ _ h]; rfl, fun j v hj => ?_⟩
  rw [add_plain, cell_of_row _ _ j _ _ _ h, ← hj]
  simp [OP.cells]
theorem Boxed.step {w w1 : World} {b : Nat} {o : OP} {A : Option Addr} {c : Nat} (h : Boxed w b o A c) {S : Nat → Prop} (hc : Chg S w w1) (hn : ¬ S b) : Boxed w1 b o A c :=
  ⟨hc.cell_ h.f0 hn, hc.cell_ h.f1 hn, hc.cell_ h.f2 hn, fun j v hj => hc.cell_ (h.all j v hj) (by rw [block_of_add']; exact hn)⟩
theorem Boxed.below {w w1 : World} {b : Nat} {o : OP} {A : Option Addr} {c : Nat} (h : Boxed w b o A c) (hc : Below w.heap.size w w1) : Boxed w1 b o A c := h.step (Chg.of_below hc none_) (fun h => h)

set_option maxRecDepth 100000 in
set_option maxHeartbeats 4000000 in
theorem does0 {B : Nat} {w : World} {p q : Nat} {D : DM} {A : Option Addr} {c : Nat} (o : OP) (hb : Both B w p q D) (hB : B ≤ w.heap.size) (hk : (o.kind == 1) = false ∧ (o.kind == 2) = false ∧ (o.kind == 3) = false ∧ (o.kind == 4) = false ∧ (o.kind == 5) = false ∧ (o.kind == 6) = false) :
  Calls Try.prog 28 #[.pointer (some ⟨p, 0, none⟩), .pointer (some ⟨q, 0, none⟩), opAgg o A c] w fun e w' => e = .returned (.tuple #[.pointer (some ⟨p, 0, none⟩), .pointer (some ⟨q, 0, none⟩), .bool true]) ∧ Both B w' p q D ∧ Below B w w' := by
  obtain ⟨k1, k2, k3, k4, k5, k6⟩ := hk
  have hB1 := below_alloc (Below.refl w.heap.size w) (opObj o A c)
  go_enter Try.func28, Try.ntmps28
  go_wp2
  go_ret3
  exact ⟨rfl, hb.below hB1, hB1.mono hB⟩
set_option maxRecDepth 100000 in
set_option maxHeartbeats 4000000 in
theorem does3 {B : Nat} {w : World} {p q : Nat} {D : DM} {A : Option Addr} {c : Nat} (o : OP) (ho : o.ok) (hb : Both B w p q D) (hB : B ≤ w.heap.size) (hk : o.kind = 3) :
  Calls Try.prog 28 #[.pointer (some ⟨p, 0, none⟩), .pointer (some ⟨q, 0, none⟩), opAgg o A c] w fun e w' => e = .returned (.tuple #[.pointer (some ⟨p, 0, none⟩), .pointer (some ⟨q, 0, none⟩), .bool true]) ∧ Both B w' p q (D.cut o.n) ∧ Below B w w' := by
  have k1 : (o.kind == 1) = false := by rw [hk]; decide
  have k2 : (o.kind == 2) = false := by rw [hk]; decide
  have k3 : (o.kind == 3) = true := by rw [hk]; decide
  have hB1 := below_alloc (Below.refl w.heap.size w) (opObj o A c)
  have hx := boxed_new w o A c
  have hb1 := hb.below hB1
  have hs1 : w.heap.size + 1 = (w.alloc (opObj o A c)).heap.size := by simp
  obtain ⟨okd, okt, hd0, ht0, hap, hed, het⟩ := hb
  have hd := hd0.step (w1 := w.alloc (opObj o A c)) (fun k _ hk => hB1.block k hk)
  have ht := ht0.step (w1 := w.alloc (opObj o A c)) (fun k _ hk => hB1.block k hk)
  clear hk hd0 ht0 hb1
  have f2 := hx.f2
  go_enter Try.func28, Try.ntmps28
  go_wp2_with fail
  refine (cut_any o.n hd ho.n2).mono ?_
  rintro e w2 ⟨rfl, hd2, hc2⟩
  have hx2 := hx.step hc2 (fun h => by have := (hed _ h).2; omega)
  have g2 := hx2.f2
  have ht2 := ht.step (w1 := w2) (fun k hk hlt => hc2.block k hlt (fun h => hap k h hk))
  clear f2
  go_wp2_with fail
  refine (rcut_any o.n ht2 ho.n2).mono ?_
  rintro e w3 ⟨rfl, ht3, hc3⟩
  have hd3 := hd2.step (w1 := w3) (fun k hk hlt => hc3.block k hlt (fun h => hap k hk h))
  have s2 := hc2.size
  have s3 := hc3.size
  have hfin : Both B w3 p q (D.cut o.n) := ⟨okd, okt, hd3, ht3, hap, fun k hk => ⟨(hed k hk).1, by have := (hed k hk).2; omega⟩, fun k hk => ⟨(het k hk).1, by have := (het k hk).2; omega⟩⟩
  have t3 : Below B w w3 := (hB1.mono hB).trans ((hc2.below_ (B := B) (by omega) (fun k hk => (hed k hk).1)).trans (hc3.below_ (B := B) (by omega) (fun k hk => (het k hk).1)))
  clear g2
  go_wp2
  go_ret3
  exact ⟨rfl, hfin, t3⟩
set_option maxRecDepth 100000 in
set_option maxHeartbeats 4000000 in
theorem does4 {B : Nat} {w : World} {p q : Nat} {D : DM} {A : Option Addr} {c : Nat} (o : OP) (ho : o.ok) (hb : Both B w p q D) (hB : B ≤ w.heap.size) (hk : o.kind = 4) :
  Calls Try.prog 28 #[.pointer (some ⟨p, 0, none⟩), .pointer (some ⟨q, 0, none⟩), opAgg o A c] w fun e w' => e = .returned (.tuple #[.pointer (some ⟨p, 0, none⟩), .pointer (some ⟨q, 0, none⟩), .bool true]) ∧ Both B w' p q { D with left := -1, gone := false } ∧ Below B w w' := by
  have k1 : (o.kind == 1) = false := by rw [hk]; decide
  have k2 : (o.kind == 2) = false := by rw [hk]; decide
  have k3 : (o.kind == 3) = false := by rw [hk]; decide
  have k4 : (o.kind == 4) = true := by rw [hk]; decide
  have hB1 := below_alloc (Below.refl w.heap.size w) (opObj o A c)
  have hx := boxed_new w o A c
  have hb1 := hb.below hB1
  have hs1 : w.heap.size + 1 = (w.alloc (opObj o A c)).heap.size := by simp
  obtain ⟨okd, okt, hd0, ht0, hap, hed, het⟩ := hb
  have hd := hd0.step (w1 := w.alloc (opObj o A c)) (fun k _ hk => hB1.block k hk)
  have ht := ht0.step (w1 := w.alloc (opObj o A c)) (fun k _ hk => hB1.block k hk)
  clear hk hd0 ht0 hb1
  have f2 := hx.f2
  go_enter Try.func28, Try.ntmps28
  go_wp2_with fail
  refine (on_any hd).mono ?_
  rintro e w2 ⟨rfl, hd2, hc2⟩
  have hx2 := hx.step hc2 (fun h => by have := (hed _ h).2; omega)
  have g2 := hx2.f2
  have ht2 := ht.step (w1 := w2) (fun k hk hlt => hc2.block k hlt (fun h => hap k h hk))
  clear f2
  go_wp2_with fail
  refine (ron_any ht2).mono ?_
  rintro e w3 ⟨rfl, ht3, hc3⟩
  have hd3 := hd2.step (w1 := w3) (fun k hk hlt => hc3.block k hlt (fun h => hap k hk h))
  have s2 := hc2.size
  have s3 := hc3.size
  have hfin : Both B w3 p q { D with left := -1, gone := false } := ⟨okd, okt, hd3, ht3, hap, fun k hk => ⟨(hed k hk).1, by have := (hed k hk).2; omega⟩, fun k hk => ⟨(het k hk).1, by have := (het k hk).2; omega⟩⟩
  have t3 : Below B w w3 := (hB1.mono hB).trans ((hc2.below_ (B := B) (by omega) (fun k hk => (hed k hk).1)).trans (hc3.below_ (B := B) (by omega) (fun k hk => (het k hk).1)))
  clear g2
  go_wp2
  go_ret3
  exact ⟨rfl, hfin, t3⟩
set_option maxRecDepth 100000 in
set_option maxHeartbeats 4000000 in
theorem does5 {B : Nat} {w : World} {p q : Nat} {D : DM} {A : Option Addr} {c : Nat} (o : OP) (ho : o.ok) (hb : Both B w p q D) (hB : B ≤ w.heap.size) (hk : o.kind = 5) :
  Calls Try.prog 28 #[.pointer (some ⟨p, 0, none⟩), .pointer (some ⟨q, 0, none⟩), opAgg o A c] w fun e w' => e = .returned (.tuple #[.pointer (some ⟨p, 0, none⟩), .pointer (some ⟨q, 0, none⟩), .bool true]) ∧ Both B w' p q { D with ws := [] } ∧ Below B w w' := by
  have k1 : (o.kind == 1) = false := by rw [hk]; decide
  have k2 : (o.kind == 2) = false := by rw [hk]; decide
  have k3 : (o.kind == 3) = false := by rw [hk]; decide
  have k4 : (o.kind == 4) = false := by rw [hk]; decide
  have k5 : (o.kind == 5) = true := by rw [hk]; decide
  have hB1 := below_alloc (Below.refl w.heap.size w) (opObj o A c)
  have hx := boxed_new w o A c
  have hb1 := hb.below hB1
  have hs1 : w.heap.size + 1 = (w.alloc (opObj o A c)).heap.size := by simp
  obtain ⟨okd, okt, hd0, ht0, hap, hed, het⟩ := hb
  have hd := hd0.step (w1 := w.alloc (opObj o A c)) (fun k _ hk => hB1.block k hk)
  have ht := ht0.step (w1 := w.alloc (opObj o A c)) (fun k _ hk => hB1.block k hk)
  clear hk hd0 ht0 hb1
  have f2 := hx.f2
  go_enter Try.func28, Try.ntmps28
  go_wp2_with fail
  refine (forget_any hd).mono ?_
  rintro e w2 ⟨rfl, hd2, hc2⟩
  have hx2 := hx.step hc2 (fun h => by have := (hed _ h).2; omega)
  have g2 := hx2.f2
  have ht2 := ht.step (w1 := w2) (fun k hk hlt => hc2.block k hlt (fun h => hap k h hk))
  clear f2
  go_wp2_with fail
  refine (rforget_any ht2).mono ?_
  rintro e w3 ⟨rfl, ht3, hc3⟩
  have hd3 := hd2.step (w1 := w3) (fun k hk hlt => hc3.block k hlt (fun h => hap k hk h))
  have s2 := hc2.size
  have s3 := hc3.size
  have hfin : Both B w3 p q { D with ws := [] } := ⟨okd, okt, hd3, ht3, hap, fun k hk => ⟨(hed k hk).1, by have := (hed k hk).2; omega⟩, fun k hk => ⟨(het k hk).1, by have := (het k hk).2; omega⟩⟩
  have t3 : Below B w w3 := (hB1.mono hB).trans ((hc2.below_ (B := B) (by omega) (fun k hk => (hed k hk).1)).trans (hc3.below_ (B := B) (by omega) (fun k hk => (het k hk).1)))
  clear g2
  go_wp2
  go_ret3
  exact ⟨rfl, hfin, t3⟩
end Go.Proofs.Ytpgiooheoafieaa
