/- Package foundrylaw03: an Op, and write. -/
import Derived.Test.YtiecljhgpbifjaaWireR
set_option linter.unusedVariables false
set_option linter.unusedSimpArgs false
namespace Go.Proofs.Ytiecljhgpbifjaa
open Go.RowKit Go.Proofs.YtiecljhgpbifjaaW.PrintWords

structure OQ where
  kind : Int
  n : Int
  s : ByteArray
  l : List Int
  t : List ByteArray
  most : Int
  long : Int
structure OQ.ok (o : OQ) : Prop where
  n : 0 ≤ o.n ∧ o.n < 18446744073709551616
  s : o.s.size ≤ 140737488351232
  l : o.l.length * 8 ≤ 140737488351232
  t : o.t.length * 16 ≤ 140737488351232
  m1 : -9223372036854775808 ≤ o.most ∧ o.most ≤ 9223372036854775807
  m2 : -9223372036854775808 ≤ o.long ∧ o.long ≤ 9223372036854775807
/-- The bytes of a value. -/
def OQ.B (o : OQ) : List Int :=
  if o.kind = 1 then [o.n % 256] else if o.kind = 2 then [if o.n % 2 = 1 then 1 else 0] else if o.kind = 3 then be o.n 2 else if o.kind = 4 then be (o.n % 2147483648) 4 else if o.kind = 5 then be o.n 8
  else if o.kind = 6 then rawB (bytesOf o.s) else if o.kind = 7 then rawB (bytesOf o.s) else if o.kind = 8 then intsB o.l else if o.kind = 9 then textsB o.t else []
abbrev oqAgg (o : OQ) (A : Option Addr) (c : Nat) (A2 : Option Addr) (c2 : Nat) : Value := .agg #[.int .i64 o.kind, .int .u64 o.n, .string o.s, .slice A o.l.length c, .slice A2 o.t.length c2, .int .i64 o.most, .int .i64 o.long]
abbrev oqObj (o : OQ) (A : Option Addr) (c : Nat) (A2 : Option Addr) (c2 : Nat) : Obj := .cells #[.int .i64 o.kind, .int .u64 o.n, .string o.s, .slice A o.l.length c, .slice A2 o.t.length c2, .int .i64 o.most, .int .i64 o.long] 32
set_option maxRecDepth 100000 in
set_option maxHeartbeats 4000000 in
theorem write1 {w : World} {ok : Nat → Prop} {p : Nat} {b : List Int} {A A2 : Option Addr} {c c2 : Nat} (o : OQ) (ho : o.ok) (h : PWr w ok p b) (hk : ∀ k, ok k → k < w.heap.size) (hkind : o.kind = 1) (hl : b.length + ([o.n % 256]).length + 16 ≤ 140737488355328)
    (hC1 : ∀ w', Chg ok w w' → (Kd.int .i64).C w' A o.l.length o.l) (hC2 : ∀ w', Chg ok w w' → Kd.string.C w' A2 o.t.length o.t) :
  Calls Try.prog 8 #[.pointer (some ⟨p, 0, none⟩), oqAgg o A c A2 c2] w fun e w' => e = .returned (.tuple #[]) ∧ PWr w' (orNew ok w) p (b ++ [o.n % 256]) ∧ Chg ok w w' := by
  have k1 : (o.kind == 1) = true := by rw [hkind]; decide
  have hB1 := below_alloc (Below.refl w.heap.size w) (oqObj o A c A2 c2)
  have h1 := h.step (w1 := w.alloc (oqObj o A c A2 c2)) (fun k _ hlt => hB1.block k hlt)
  have e1 : Chg ok w (w.alloc (oqObj o A c A2 c2)) := Chg.of_below hB1 ok
  clear hkind h
  go_enter Try.func8, Try.ntmps8
  go_wp2_with fail
  refine (byte_any (o.n % 256) h1 (by omega)).mono ?_
  rintro e w2 ⟨rfl, h2, c2'⟩
  have h3 := h2.mono (ok' := orNew ok w) (fun k hk => hk.elim .inl (fun h => .inr (Nat.le_trans hB1.size h)))
  have c3 := e1.then_ c2' (fun _ h => .inl h)
  clear hC1 hC2
  go_wp2
  go_end0
  exact ⟨rfl, h3, c3⟩
set_option maxRecDepth 100000 in
set_option maxHeartbeats 4000000 in
theorem write2 {w : World} {ok : Nat → Prop} {p : Nat} {b : List Int} {A A2 : Option Addr} {c c2 : Nat} (o : OQ) (ho : o.ok) (h : PWr w ok p b) (hk : ∀ k, ok k → k < w.heap.size) (hkind : o.kind = 2) (hl : b.length + ([if o.n % 2 = 1 then 1 else 0]).length + 16 ≤ 140737488355328)
    (hC1 : ∀ w', Chg ok w w' → (Kd.int .i64).C w' A o.l.length o.l) (hC2 : ∀ w', Chg ok w w' → Kd.string.C w' A2 o.t.length o.t) :
  Calls Try.prog 8 #[.pointer (some ⟨p, 0, none⟩), oqAgg o A c A2 c2] w fun e w' => e = .returned (.tuple #[]) ∧ PWr w' (orNew ok w) p (b ++ [if o.n % 2 = 1 then 1 else 0]) ∧ Chg ok w w' := by
  have k1 : (o.kind == 1) = false := by rw [hkind]; decide
  have k2 : (o.kind == 2) = true := by rw [hkind]; decide
  have hB1 := below_alloc (Below.refl w.heap.size w) (oqObj o A c A2 c2)
  have h1 := h.step (w1 := w.alloc (oqObj o A c A2 c2)) (fun k _ hlt => hB1.block k hlt)
  have e1 : Chg ok w (w.alloc (oqObj o A c A2 c2)) := Chg.of_below hB1 ok
  clear hkind h
  have hwb := wbool_any (o.n % 2 == 1) h1 (by simp at hl; omega)
  have hbe : (if (o.n % 2 == 1) = true then (1 : Int) else 0) = if o.n % 2 = 1 then 1 else 0 := by simp
  rw [hbe] at hwb
  have hmod : o.n.tmod 2 = o.n % 2 := Int.tmod_eq_emod_of_nonneg ho.n.1
  generalize [if o.n % 2 = 1 then (1 : Int) else 0] = y at hwb hl ⊢
  go_enter Try.func8, Try.ntmps8
  go_wp2_with fail
  refine (hwb).mono ?_
  rintro e w2 ⟨rfl, h2, c2'⟩
  have h3 := h2.mono (ok' := orNew ok w) (fun k hk => hk.elim .inl (fun h => .inr (Nat.le_trans hB1.size h)))
  have c3 := e1.then_ c2' (fun _ h => .inl h)
  clear hC1 hC2
  go_wp2
  go_end0
  exact ⟨rfl, h3, c3⟩
set_option maxRecDepth 100000 in
set_option maxHeartbeats 4000000 in
theorem write3 {w : World} {ok : Nat → Prop} {p : Nat} {b : List Int} {A A2 : Option Addr} {c c2 : Nat} (o : OQ) (ho : o.ok) (h : PWr w ok p b) (hk : ∀ k, ok k → k < w.heap.size) (hkind : o.kind = 3) (hl : b.length + (be o.n 2).length + 16 ≤ 140737488355328)
    (hC1 : ∀ w', Chg ok w w' → (Kd.int .i64).C w' A o.l.length o.l) (hC2 : ∀ w', Chg ok w w' → Kd.string.C w' A2 o.t.length o.t) :
  Calls Try.prog 8 #[.pointer (some ⟨p, 0, none⟩), oqAgg o A c A2 c2] w fun e w' => e = .returned (.tuple #[]) ∧ PWr w' (orNew ok w) p (b ++ be o.n 2) ∧ Chg ok w w' := by
  have k1 : (o.kind == 1) = false := by rw [hkind]; decide
  have k2 : (o.kind == 2) = false := by rw [hkind]; decide
  have k3 : (o.kind == 3) = true := by rw [hkind]; decide
  have hB1 := below_alloc (Below.refl w.heap.size w) (oqObj o A c A2 c2)
  have h1 := h.step (w1 := w.alloc (oqObj o A c A2 c2)) (fun k _ hlt => hB1.block k hlt)
  have e1 : Chg ok w (w.alloc (oqObj o A c A2 c2)) := Chg.of_below hB1 ok
  clear hkind h
  have hwb := wshort_any (wrap64 o.n) h1 (by omega)
  have hbe : wrap64 o.n % 18446744073709551616 = o.n := by have := ho.n; unfold wrap64; omega
  rw [hbe] at hwb
  go_enter Try.func8, Try.ntmps8
  go_wp2_with fail
  refine (hwb).mono ?_
  rintro e w2 ⟨rfl, h2, c2'⟩
  have h3 := h2.mono (ok' := orNew ok w) (fun k hk => hk.elim .inl (fun h => .inr (Nat.le_trans hB1.size h)))
  have c3 := e1.then_ c2' (fun _ h => .inl h)
  clear hC1 hC2
  go_wp2
  go_end0
  exact ⟨rfl, h3, c3⟩
set_option maxRecDepth 100000 in
set_option maxHeartbeats 4000000 in
theorem write4 {w : World} {ok : Nat → Prop} {p : Nat} {b : List Int} {A A2 : Option Addr} {c c2 : Nat} (o : OQ) (ho : o.ok) (h : PWr w ok p b) (hk : ∀ k, ok k → k < w.heap.size) (hkind : o.kind = 4) (hl : b.length + (be (o.n % 2147483648) 4).length + 16 ≤ 140737488355328)
    (hC1 : ∀ w', Chg ok w w' → (Kd.int .i64).C w' A o.l.length o.l) (hC2 : ∀ w', Chg ok w w' → Kd.string.C w' A2 o.t.length o.t) :
  Calls Try.prog 8 #[.pointer (some ⟨p, 0, none⟩), oqAgg o A c A2 c2] w fun e w' => e = .returned (.tuple #[]) ∧ PWr w' (orNew ok w) p (b ++ be (o.n % 2147483648) 4) ∧ Chg ok w w' := by
  have k1 : (o.kind == 1) = false := by rw [hkind]; decide
  have k2 : (o.kind == 2) = false := by rw [hkind]; decide
  have k3 : (o.kind == 3) = false := by rw [hkind]; decide
  have k4 : (o.kind == 4) = true := by rw [hkind]; decide
  have hB1 := below_alloc (Below.refl w.heap.size w) (oqObj o A c A2 c2)
  have h1 := h.step (w1 := w.alloc (oqObj o A c A2 c2)) (fun k _ hlt => hB1.block k hlt)
  have e1 : Chg ok w (w.alloc (oqObj o A c A2 c2)) := Chg.of_below hB1 ok
  clear hkind h
  have hwb := wint_any (wrap64 o.n) h1 (by omega)
  have hbe : wrap64 o.n % 2147483648 = o.n % 2147483648 := by have := ho.n; unfold wrap64; omega
  rw [hbe] at hwb
  go_enter Try.func8, Try.ntmps8
  go_wp2_with fail
  refine (hwb).mono ?_
  rintro e w2 ⟨rfl, h2, c2'⟩
  have h3 := h2.mono (ok' := orNew ok w) (fun k hk => hk.elim .inl (fun h => .inr (Nat.le_trans hB1.size h)))
  have c3 := e1.then_ c2' (fun _ h => .inl h)
  clear hC1 hC2
  go_wp2
  go_end0
  exact ⟨rfl, h3, c3⟩
set_option maxRecDepth 100000 in
set_option maxHeartbeats 4000000 in
theorem write5 {w : World} {ok : Nat → Prop} {p : Nat} {b : List Int} {A A2 : Option Addr} {c c2 : Nat} (o : OQ) (ho : o.ok) (h : PWr w ok p b) (hk : ∀ k, ok k → k < w.heap.size) (hkind : o.kind = 5) (hl : b.length + (be o.n 8).length + 16 ≤ 140737488355328)
    (hC1 : ∀ w', Chg ok w w' → (Kd.int .i64).C w' A o.l.length o.l) (hC2 : ∀ w', Chg ok w w' → Kd.string.C w' A2 o.t.length o.t) :
  Calls Try.prog 8 #[.pointer (some ⟨p, 0, none⟩), oqAgg o A c A2 c2] w fun e w' => e = .returned (.tuple #[]) ∧ PWr w' (orNew ok w) p (b ++ be o.n 8) ∧ Chg ok w w' := by
  have k1 : (o.kind == 1) = false := by rw [hkind]; decide
  have k2 : (o.kind == 2) = false := by rw [hkind]; decide
  have k3 : (o.kind == 3) = false := by rw [hkind]; decide
  have k4 : (o.kind == 4) = false := by rw [hkind]; decide
  have k5 : (o.kind == 5) = true := by rw [hkind]; decide
  have hB1 := below_alloc (Below.refl w.heap.size w) (oqObj o A c A2 c2)
  have h1 := h.step (w1 := w.alloc (oqObj o A c A2 c2)) (fun k _ hlt => hB1.block k hlt)
  have e1 : Chg ok w (w.alloc (oqObj o A c A2 c2)) := Chg.of_below hB1 ok
  clear hkind h
  go_enter Try.func8, Try.ntmps8
  go_wp2_with fail
  refine (wlong_any o.n ho.n h1 (by omega)).mono ?_
  rintro e w2 ⟨rfl, h2, c2'⟩
  have h3 := h2.mono (ok' := orNew ok w) (fun k hk => hk.elim .inl (fun h => .inr (Nat.le_trans hB1.size h)))
  have c3 := e1.then_ c2' (fun _ h => .inl h)
  clear hC1 hC2
  go_wp2
  go_end0
  exact ⟨rfl, h3, c3⟩
set_option maxRecDepth 100000 in
set_option maxHeartbeats 4000000 in
theorem write6 {w : World} {ok : Nat → Prop} {p : Nat} {b : List Int} {A A2 : Option Addr} {c c2 : Nat} (o : OQ) (ho : o.ok) (h : PWr w ok p b) (hk : ∀ k, ok k → k < w.heap.size) (hkind : o.kind = 6) (hl : b.length + (rawB (bytesOf o.s)).length + 16 ≤ 140737488355328)
    (hC1 : ∀ w', Chg ok w w' → (Kd.int .i64).C w' A o.l.length o.l) (hC2 : ∀ w', Chg ok w w' → Kd.string.C w' A2 o.t.length o.t) :
  Calls Try.prog 8 #[.pointer (some ⟨p, 0, none⟩), oqAgg o A c A2 c2] w fun e w' => e = .returned (.tuple #[]) ∧ PWr w' (orNew ok w) p (b ++ rawB (bytesOf o.s)) ∧ Chg ok w w' := by
  have k1 : (o.kind == 1) = false := by rw [hkind]; decide
  have k2 : (o.kind == 2) = false := by rw [hkind]; decide
  have k3 : (o.kind == 3) = false := by rw [hkind]; decide
  have k4 : (o.kind == 4) = false := by rw [hkind]; decide
  have k5 : (o.kind == 5) = false := by rw [hkind]; decide
  have k6 : (o.kind == 6) = true := by rw [hkind]; decide
  have hB1 := below_alloc (Below.refl w.heap.size w) (oqObj o A c A2 c2)
  have h1 := h.step (w1 := w.alloc (oqObj o A c A2 c2)) (fun k _ hlt => hB1.block k hlt)
  have e1 : Chg ok w (w.alloc (oqObj o A c A2 c2)) := Chg.of_below hB1 ok
  clear hkind h
  go_enter Try.func8, Try.ntmps8
  go_wp2_with fail
  refine (wtext_any o.s h1 (fun k hk' => by have := hk k hk'; simp; omega) (by rw [rawB_length, bytesOf_length] at hl; omega)).mono ?_
  rintro e w2 ⟨rfl, h2, c2'⟩
  have h3 := h2.mono (ok' := orNew ok w) (fun k hk => hk.elim .inl (fun h => .inr (Nat.le_trans hB1.size h)))
  have c3 := e1.then_ c2' (fun _ h => .inl h)
  clear hC1 hC2
  go_wp2
  go_end0
  exact ⟨rfl, h3, c3⟩
set_option maxRecDepth 100000 in
set_option maxHeartbeats 4000000 in
theorem write7 {w : World} {ok : Nat → Prop} {p : Nat} {b : List Int} {A A2 : Option Addr} {c c2 : Nat} (o : OQ) (ho : o.ok) (h : PWr w ok p b) (hk : ∀ k, ok k → k < w.heap.size) (hkind : o.kind = 7) (hl : b.length + (rawB (bytesOf o.s)).length + 16 ≤ 140737488355328)
    (hC1 : ∀ w', Chg ok w w' → (Kd.int .i64).C w' A o.l.length o.l) (hC2 : ∀ w', Chg ok w w' → Kd.string.C w' A2 o.t.length o.t) :
  Calls Try.prog 8 #[.pointer (some ⟨p, 0, none⟩), oqAgg o A c A2 c2] w fun e w' => e = .returned (.tuple #[]) ∧ PWr w' (orNew ok w) p (b ++ rawB (bytesOf o.s)) ∧ Chg ok w w' := by
  have k1 : (o.kind == 1) = false := by rw [hkind]; decide
  have k2 : (o.kind == 2) = false := by rw [hkind]; decide
  have k3 : (o.kind == 3) = false := by rw [hkind]; decide
  have k4 : (o.kind == 4) = false := by rw [hkind]; decide
  have k5 : (o.kind == 5) = false := by rw [hkind]; decide
  have k6 : (o.kind == 6) = false := by rw [hkind]; decide
  have k7 : (o.kind == 7) = true := by rw [hkind]; decide
  have hB1 := below_alloc (Below.refl w.heap.size w) (oqObj o A c A2 c2)
  have h1 := h.step (w1 := w.alloc (oqObj o A c A2 c2)) (fun k _ hlt => hB1.block k hlt)
  have e1 : Chg ok w (w.alloc (oqObj o A c A2 c2)) := Chg.of_below hB1 ok
  clear hkind h
  have hcv := fun W => print_bytes (P := Try.prog) 9 24 5 Try.underlying9 Try.underlying24 Try.underlying5 o.s W
  have hBx := bytes_below (Below.refl (w.alloc (oqObj o A c A2 c2)).heap.size (w.alloc (oqObj o A c A2 c2))) (Nat.le_refl _) 5 o.s
  have hF := RB_reads (bytes_reads (w.alloc (oqObj o A c A2 c2)) 5 o.s (by have := ho.s; omega))
  have h1x := h1.step (w1 := Lib.bytesWorld (w.alloc (oqObj o A c A2 c2)) 5 o.s) (fun k _ hlt => hBx.block k hlt)
  have hr := wraw_any (c := grownCap (w.alloc (oqObj o A c A2 c2)) o.s.size 0 5) h1x hF (fun k e hok => by have := hk k hok; simp at e; omega) (by rw [rawB_length] at hl; omega)
  rw [bytesOf_length] at hr
  have hsz : w.heap.size ≤ (Lib.bytesWorld (w.alloc (oqObj o A c A2 c2)) 5 o.s).heap.size := by have := hBx.size; simp at this; omega
  have e2 : Chg ok w (Lib.bytesWorld (w.alloc (oqObj o A c A2 c2)) 5 o.s) := e1.same hBx
  clear hC1 hC2 hBx hF h1x
  unfold oqObj at hr hsz e2 hB1 e1 h1
  rw [World.size_alloc] at hr
  go_enter Try.func8, Try.ntmps8
  go_wp2_with fail
  refine hr.mono ?_
  rintro e w2 ⟨rfl, h2, c2'⟩
  have h3 := h2.mono (ok' := orNew ok w) (fun k hk => hk.elim .inl (fun h => .inr (Nat.le_trans hsz h)))
  have c3 := e2.then_ c2' (fun _ h => .inl h)
  clear hcv hr
  go_wp2
  go_end0
  exact ⟨rfl, h3, c3⟩
set_option maxRecDepth 100000 in
set_option maxHeartbeats 4000000 in
theorem write8 {w : World} {ok : Nat → Prop} {p : Nat} {b : List Int} {A A2 : Option Addr} {c c2 : Nat} (o : OQ) (ho : o.ok) (h : PWr w ok p b) (hk : ∀ k, ok k → k < w.heap.size) (hkind : o.kind = 8) (hl : b.length + (intsB o.l).length + 16 ≤ 140737488355328)
    (hC1 : ∀ w', Chg ok w w' → (Kd.int .i64).C w' A o.l.length o.l) (hC2 : ∀ w', Chg ok w w' → Kd.string.C w' A2 o.t.length o.t) :
  Calls Try.prog 8 #[.pointer (some ⟨p, 0, none⟩), oqAgg o A c A2 c2] w fun e w' => e = .returned (.tuple #[]) ∧ PWr w' (orNew ok w) p (b ++ intsB o.l) ∧ Chg ok w w' := by
  have k1 : (o.kind == 1) = false := by rw [hkind]; decide
  have k2 : (o.kind == 2) = false := by rw [hkind]; decide
  have k3 : (o.kind == 3) = false := by rw [hkind]; decide
  have k4 : (o.kind == 4) = false := by rw [hkind]; decide
  have k5 : (o.kind == 5) = false := by rw [hkind]; decide
  have k6 : (o.kind == 6) = false := by rw [hkind]; decide
  have k7 : (o.kind == 7) = false := by rw [hkind]; decide
  have k8 : (o.kind == 8) = true := by rw [hkind]; decide
  have hB1 := below_alloc (Below.refl w.heap.size w) (oqObj o A c A2 c2)
  have h1 := h.step (w1 := w.alloc (oqObj o A c A2 c2)) (fun k _ hlt => hB1.block k hlt)
  have e1 : Chg ok w (w.alloc (oqObj o A c A2 c2)) := Chg.of_below hB1 ok
  clear hkind h
  have hle : (intsB o.l).length = 4 + 4 * o.l.length := by
    have : ∀ m : List Int, (m.flatMap fun n => be (n % 2147483648) 4).length = 4 * m.length := fun m => by
      induction m with
      | nil => rfl
      | cons a m ih => simp only [List.flatMap_cons, List.length_append, be_length, ih, List.length_cons]; omega
    unfold intsB; rw [List.length_append, be_length, this]
  have hwb := wints_any (okb := ok) (c := c) h1 (fun w' hw => hC1 w' (e1.then_ hw (fun _ h => .inl h))) (by omega)
  go_enter Try.func8, Try.ntmps8
  go_wp2_with fail
  refine (hwb).mono ?_
  rintro e w2 ⟨rfl, h2, c2'⟩
  have h3 := h2.mono (ok' := orNew ok w) (fun k hk => hk.elim .inl (fun h => .inr (Nat.le_trans hB1.size h)))
  have c3 := e1.then_ c2' (fun _ h => .inl h)
  clear hC1 hC2
  go_wp2
  go_end0
  exact ⟨rfl, h3, c3⟩
set_option maxRecDepth 100000 in
set_option maxHeartbeats 4000000 in
theorem write9 {w : World} {ok : Nat → Prop} {p : Nat} {b : List Int} {A A2 : Option Addr} {c c2 : Nat} (o : OQ) (ho : o.ok) (h : PWr w ok p b) (hk : ∀ k, ok k → k < w.heap.size) (hkind : o.kind = 9) (hl : b.length + (textsB o.t).length + 16 ≤ 140737488355328)
    (hC1 : ∀ w', Chg ok w w' → (Kd.int .i64).C w' A o.l.length o.l) (hC2 : ∀ w', Chg ok w w' → Kd.string.C w' A2 o.t.length o.t) :
  Calls Try.prog 8 #[.pointer (some ⟨p, 0, none⟩), oqAgg o A c A2 c2] w fun e w' => e = .returned (.tuple #[]) ∧ PWr w' (orNew ok w) p (b ++ textsB o.t) ∧ Chg ok w w' := by
  have k1 : (o.kind == 1) = false := by rw [hkind]; decide
  have k2 : (o.kind == 2) = false := by rw [hkind]; decide
  have k3 : (o.kind == 3) = false := by rw [hkind]; decide
  have k4 : (o.kind == 4) = false := by rw [hkind]; decide
  have k5 : (o.kind == 5) = false := by rw [hkind]; decide
  have k6 : (o.kind == 6) = false := by rw [hkind]; decide
  have k7 : (o.kind == 7) = false := by rw [hkind]; decide
  have k8 : (o.kind == 8) = false := by rw [hkind]; decide
  have k9 : (o.kind == 9) = true := by rw [hkind]; decide
  have hB1 := below_alloc (Below.refl w.heap.size w) (oqObj o A c A2 c2)
  have h1 := h.step (w1 := w.alloc (oqObj o A c A2 c2)) (fun k _ hlt => hB1.block k hlt)
  have e1 : Chg ok w (w.alloc (oqObj o A c A2 c2)) := Chg.of_below hB1 ok
  clear hkind h
  have hwb := wtexts_any (okb := ok) (c := c2) h1 (fun k hk' => by have := hk k hk'; simp; omega) (fun w' hw => hC2 w' (e1.then_ hw (fun _ h => .inl h))) hl (by have := ho.t; omega)
  go_enter Try.func8, Try.ntmps8
  go_wp2_with fail
  refine (hwb).mono ?_
  rintro e w2 ⟨rfl, h2, c2'⟩
  have h3 := h2.mono (ok' := orNew ok w) (fun k hk => hk.elim .inl (fun h => .inr (Nat.le_trans hB1.size h)))
  have c3 := e1.then_ c2' (fun _ h => .inl h)
  clear hC1 hC2
  go_wp2
  go_end0
  exact ⟨rfl, h3, c3⟩
set_option maxRecDepth 100000 in
set_option maxHeartbeats 4000000 in
theorem write0 {w : World} {p : Value} {A A2 : Option Addr} {c c2 : Nat} (o : OQ) (hk : (o.kind == 1) = false ∧ (o.kind == 2) = false ∧ (o.kind == 3) = false ∧ (o.kind == 4) = false ∧ (o.kind == 5) = false ∧ (o.kind == 6) = false ∧ (o.kind == 7) = false ∧ (o.kind == 8) = false ∧ (o.kind == 9) = false) :
  Calls Try.prog 8 #[p, oqAgg o A c A2 c2] w fun e w' => e = .returned (.tuple #[]) ∧ Below w.heap.size w w' := by
  obtain ⟨k1, k2, k3, k4, k5, k6, k7, k8, k9⟩ := hk
  have hB1 := below_alloc (Below.refl w.heap.size w) (oqObj o A c A2 c2)
  go_enter Try.func8, Try.ntmps8
  go_wp2
  go_end0
  exact ⟨rfl, hB1⟩
theorem write_any {w : World} {ok : Nat → Prop} {p : Nat} {b : List Int} {A A2 : Option Addr} {c c2 : Nat} (o : OQ) (ho : o.ok) (h : PWr w ok p b) (hk : ∀ k, ok k → k < w.heap.size) (hl : b.length + o.B.length + 16 ≤ 140737488355328)
    (hC1 : ∀ w', Chg ok w w' → (Kd.int .i64).C w' A o.l.length o.l) (hC2 : ∀ w', Chg ok w w' → Kd.string.C w' A2 o.t.length o.t) :
  Calls Try.prog 8 #[.pointer (some ⟨p, 0, none⟩), oqAgg o A c A2 c2] w fun e w' => e = .returned (.tuple #[]) ∧ PWr w' (orNew ok w) p (b ++ o.B) ∧ Chg ok w w' := by
  unfold OQ.B at hl ⊢
  by_cases k1 : o.kind = 1
  · rw [if_pos k1] at hl ⊢; exact write1 o ho h hk k1 hl hC1 hC2
  by_cases k2 : o.kind = 2
  · rw [if_neg k1] at hl ⊢; rw [if_pos k2] at hl ⊢; exact write2 o ho h hk k2 hl hC1 hC2
  by_cases k3 : o.kind = 3
  · rw [if_neg k1] at hl ⊢; rw [if_neg k2] at hl ⊢; rw [if_pos k3] at hl ⊢; exact write3 o ho h hk k3 hl hC1 hC2
  by_cases k4 : o.kind = 4
  · rw [if_neg k1] at hl ⊢; rw [if_neg k2] at hl ⊢; rw [if_neg k3] at hl ⊢; rw [if_pos k4] at hl ⊢; exact write4 o ho h hk k4 hl hC1 hC2
  by_cases k5 : o.kind = 5
  · rw [if_neg k1] at hl ⊢; rw [if_neg k2] at hl ⊢; rw [if_neg k3] at hl ⊢; rw [if_neg k4] at hl ⊢; rw [if_pos k5] at hl ⊢; exact write5 o ho h hk k5 hl hC1 hC2
  by_cases k6 : o.kind = 6
  · rw [if_neg k1] at hl ⊢; rw [if_neg k2] at hl ⊢; rw [if_neg k3] at hl ⊢; rw [if_neg k4] at hl ⊢; rw [if_neg k5] at hl ⊢; rw [if_pos k6] at hl ⊢; exact write6 o ho h hk k6 hl hC1 hC2
  by_cases k7 : o.kind = 7
  · rw [if_neg k1] at hl ⊢; rw [if_neg k2] at hl ⊢; rw [if_neg k3] at hl ⊢; rw [if_neg k4] at hl ⊢; rw [if_neg k5] at hl ⊢; rw [if_neg k6] at hl ⊢; rw [if_pos k7] at hl ⊢; exact write7 o ho h hk k7 hl hC1 hC2
  by_cases k8 : o.kind = 8
  · rw [if_neg k1] at hl ⊢; rw [if_neg k2] at hl ⊢; rw [if_neg k3] at hl ⊢; rw [if_neg k4] at hl ⊢; rw [if_neg k5] at hl ⊢; rw [if_neg k6] at hl ⊢; rw [if_neg k7] at hl ⊢; rw [if_pos k8] at hl ⊢; exact write8 o ho h hk k8 hl hC1 hC2
  by_cases k9 : o.kind = 9
  · rw [if_neg k1] at hl ⊢; rw [if_neg k2] at hl ⊢; rw [if_neg k3] at hl ⊢; rw [if_neg k4] at hl ⊢; rw [if_neg k5] at hl ⊢; rw [if_neg k6] at hl ⊢; rw [if_neg k7] at hl ⊢; rw [if_neg k8] at hl ⊢; rw [if_pos k9] at hl ⊢; exact write9 o ho h hk k9 hl hC1 hC2
  · rw [if_neg k1] at hl ⊢; rw [if_neg k2] at hl ⊢; rw [if_neg k3] at hl ⊢; rw [if_neg k4] at hl ⊢; rw [if_neg k5] at hl ⊢; rw [if_neg k6] at hl ⊢; rw [if_neg k7] at hl ⊢; rw [if_neg k8] at hl ⊢; rw [if_neg k9] at hl ⊢; 
    rw [List.append_nil]
    refine (write0 o ⟨by simpa using k1, by simpa using k2, by simpa using k3, by simpa using k4, by simpa using k5, by simpa using k6, by simpa using k7, by simpa using k8, by simpa using k9⟩).mono ?_
    rintro e w' ⟨rfl, hB⟩
    exact ⟨rfl, (h.step (fun k _ hlt => hB.block k hlt)).mono (fun _ h => .inl h), Chg.of_below hB ok⟩
end Go.Proofs.Ytiecljhgpbifjaa
