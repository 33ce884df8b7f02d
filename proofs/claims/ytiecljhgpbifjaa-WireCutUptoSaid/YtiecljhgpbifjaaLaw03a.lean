/- Package foundrylaw03: an Op in memory and as an argument; the document's Read. -/
import Derived.Test.YtiecljhgpbifjaaWireA
import Derived.Test.YtiecljhgpbifjaaOpen
import Derived.OpenShut
set_option linter.unusedVariables false
set_option linter.unusedSimpArgs false
namespace Go.Proofs.Ytiecljhgpbifjaa
open Go.RowKit Go.Proofs.YtiecljhgpbifjaaW.PrintWords

abbrev KOQ : Kd OQ := Kd.iso (Kd.pair (Kd.int .i64) (Kd.pair (Kd.int .u64) (Kd.pair Kd.string (Kd.pair (Kd.slice 3 (Kd.int .i64)) (Kd.pair (Kd.slice 9 Kd.string) (Kd.pair (Kd.int .i64) (Kd.int .i64))))))) (fun x : OQ => (x.kind, x.n, x.s, x.l, x.t, x.most, x.long))
def OQ.cells (o : OQ) (A : Option Addr) (c : Nat) (A2 : Option Addr) (c2 : Nat) : List Value := [.int .i64 o.kind, .int .u64 o.n, .string o.s, .slice A o.l.length c, .slice A2 o.t.length c2, .int .i64 o.most, .int .i64 o.long]
theorem KOQ_open {w : World} {o : OQ} {cs : List Value} (h : KOQ.K w o cs) : ∃ A c A2 c2, cs = o.cells A c A2 c2 ∧ (Kd.int .i64).C w A o.l.length o.l ∧ Kd.string.C w A2 o.t.length o.t := by
  obtain ⟨c0, cs1, rfl, h0, c1, cs2, rfl, h1, c2, cs3, rfl, h2, c3, cs4, rfl, ⟨A, c, h3, hl, hC⟩, c4, cs5, rfl, ⟨A2, d, h4, hl2, hC2⟩, c5, c6, rfl, h5, h6⟩ := h
  obtain rfl : c0 = [.int .i64 o.kind] := h0
  obtain rfl : c1 = [.int .u64 o.n] := h1
  obtain rfl : c2 = [.string o.s] := h2
  obtain rfl : c5 = [.int .i64 o.most] := h5
  obtain rfl : c6 = [.int .i64 o.long] := h6
  subst h3
  subst h4
  exact ⟨A, c, A2, d, rfl, hC, hC2⟩
theorem oq_at {w : World} {ad : Addr} {l : List OQ} (h : KOQ.C w (some ad) l.length l) {i : Nat} (hi : i < l.length) :
    ∃ A c A2 c2, (∀ j v, (l[i].cells A c A2 c2)[j]? = some v → w.cell? ((ad.add (i * 7)).add j) = some v) ∧ (Kd.int .i64).C w A l[i].l.length l[i].l ∧ Kd.string.C w A2 l[i].t.length l[i].t := by
  obtain ⟨ad', cs, hA, hcs, hK, hcell⟩ := Kd.C_get h ⟨0, 0, ByteArray.empty, [], [], 0, 0⟩ (i : Int) (by omega) (by omega)
  injection hA with hA
  subst hA
  simp only [Int.toNat_natCast] at hK hcell
  have hget : l.getD i ⟨0, 0, ByteArray.empty, [], [], 0, 0⟩ = l[i] := by simp [List.getD_eq_getElem?_getD, hi]
  rw [hget] at hK
  obtain ⟨A, c, A2, c2, rfl, hC, hC2⟩ := KOQ_open hK
  refine ⟨A, c, A2, c2, fun j v hj => ?_, hC, hC2⟩
  have h3 := hcell j v hj
  rw [Addr.add_add]
  exact h3
theorem KOQ_agg {w : World} {o : OQ} {cs : Array Value} (h : KOQ.K w o cs.toList) : ∃ A c A2 c2, Value.agg cs = oqAgg o A c A2 c2 ∧ (Kd.int .i64).C w A o.l.length o.l ∧ Kd.string.C w A2 o.t.length o.t := by
  obtain ⟨A, c, A2, c2, hcs, hC, hC2⟩ := KOQ_open h
  refine ⟨A, c, A2, c2, ?_, hC, hC2⟩
  have : cs = (o.cells A c A2 c2).toArray := by rw [← hcs]
  rw [this]
  rfl
theorem opens_bytes : Opens Try.prog 24 (Kd.slice 5 KB) (fun xs => Bytes xs ∧ xs.length ≤ 140737488351232) :=
  (opens_slice Try.underlying24 (by kernel_rfl) (B := 1) (by kernel_rfl) (opens_int Try.underlying5)).mono fun _ h => ⟨fun x hx => by have := bounds_u8 (h.1 x hx); omega, by have := h.2; omega⟩
theorem opens_ints : Opens Try.prog 29 (Kd.slice 3 (Kd.int .i64)) (fun xs => xs.length * 8 ≤ 140737488351232) :=
  (opens_slice Try.underlying29 (by kernel_rfl) (B := 8) (by kernel_rfl) (opens_int Try.underlying3)).mono fun _ h => h.2
theorem opens_texts : Opens Try.prog 30 (Kd.slice 9 Kd.string) (fun xs => xs.length * 16 ≤ 140737488351232 ∧ ∀ x ∈ xs, x.size ≤ 140737488351232) :=
  (opens_slice Try.underlying30 (by kernel_rfl) (B := 16) (by kernel_rfl) (opens_string Try.underlying9)).mono fun _ h => ⟨h.2, h.1⟩
theorem opens_oq : Opens Try.prog 32 KOQ OQ.ok := by
  refine (opens_iso (P := Try.prog) (t := 32) (fun x : OQ => (x.kind, x.n, x.s, x.l, x.t, x.most, x.long)) (fun p => ⟨p.1, p.2.1, p.2.2.1, p.2.2.2.1, p.2.2.2.2.1, p.2.2.2.2.2.1, p.2.2.2.2.2.2⟩) (fun _ => rfl)
    (opens_struct Try.underlying32 (by kernel_rfl) (opensF_cons rfl (by kernel_rfl) (opens_int Try.underlying3) (opensF_cons rfl (by kernel_rfl) (opens_int Try.underlying28) (opensF_cons rfl (by kernel_rfl) (opens_string Try.underlying9)
      (opensF_cons rfl (by kernel_rfl) opens_ints (opensF_cons rfl (by kernel_rfl) opens_texts (opensF_cons rfl (by kernel_rfl) (opens_int Try.underlying3) (opensF_one rfl (by kernel_rfl) (opens_int Try.underlying3)))))))))).mono ?_
  rintro o ⟨_, h1, h2, h3, h4, h5, h6⟩
  have b1 := bounds_u64 h1
  have b2 := bounds_i64 h5
  have b3 := bounds_i64 h6
  exact ⟨⟨b1.1, Int.lt_add_one_of_le b1.2⟩, h2, h3, h4.1, b2, b3⟩
theorem opens_oqs : Opens Try.prog 22 (Kd.slice 32 KOQ) (fun xs => (∀ x ∈ xs, x.ok) ∧ xs.length * 96 ≤ 140737488351232) :=
  opens_slice Try.underlying22 (by kernel_rfl) (by kernel_rfl) opens_oq
theorem fread_any {w : World} {A : Option Addr} {c : Nat} {xs : List Int} {oka : Nat → Prop} (hF : RB w oka A xs) (hlt : ∀ k, oka k → k < w.heap.size) (hX : Bytes xs) (hc : xs.length ≤ c) (hl : xs.length ≤ 140737488351232) :
  Calls Try.prog 14 #[.slice A xs.length c] w fun e w' => e = .returned (.pointer (some ⟨w.heap.size, 0, none⟩)) ∧ PFt w' (fun k => oka k ∨ k = w.heap.size) w.heap.size ⟨xs, 0⟩ ∧ w'.heap.size = w.heap.size + 1 ∧ Below w.heap.size w w' := by
  have hb := below_alloc (Below.refl w.heap.size w) (.cells #[.slice A xs.length c, .int .i64 0, .int .i64 0] 46)
  have hfin : PFt (w.alloc (.cells #[.slice A xs.length c, .int .i64 0, .int .i64 0] 46)) (fun k => oka k ∨ k = w.heap.size) w.heap.size ⟨xs, 0⟩ :=
    ⟨xs, 0, ⟨.inr rfl, hX, Nat.zero_le _, by omega, A, c, heap_alloc_new w _, Kd.F_mono (RB_below hF hb) (fun k hk => ⟨.inl hk, fun e => by have := hlt k hk; omega⟩), hc⟩, fun _ => rfl⟩
  have HF := hid (And.intro hfin (And.intro (by simp : (w.alloc (.cells #[.slice A xs.length c, .int .i64 0, .int .i64 0] 46)).heap.size = w.heap.size + 1) hb))
  clear hfin hb
  go_enter Try.func14, Try.ntmps14
  go_wp2
  go_ret
  exact ⟨rfl, HF.out⟩
end Go.Proofs.Ytiecljhgpbifjaa
