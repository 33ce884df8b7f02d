/- PROVED: StoreCut answers true, and leaves what it was given as it was; where what it reads is of bulk at most 1048576, errors.errorType as the program's text lays it. -/
import Derived.Test.YticogmpafehomaaGreatDoorCards
import Derived.Test.YticogmpafehomaaGreatDoorTie
import Derived.WalkKit
import Derived.ProofKit
import Derived.OpenShut
import Derived.ShutString
import Derived.ChangeOld
import Derived.Below
import Derived.SizedLaws
import Derived.Deep.DeepHandedRow
import Derived.Deep.DeepWitnessRowRef
import Derived.JoinedCond
import Derived.Test.YticogmpafehomaaGreatDoorGKCU4
import Derived.Test.YticogmpafehomaaGreatDoorGKCU1

set_option linter.unusedVariables false
set_option linter.unusedSimpArgs false
namespace Go.Proofs.YticogmpafehomaaGreatDoor
open Go.RowKit Go.Maps Go.Proofs.YticogmpafehomaaGreatDoorW.PrintWords Go.Proofs.YticogmpafehomaaGreatDoorW.PrintMore

/-- A row of entries, or a variable. -/
inductive Res where
  | row (A : Option Addr) (n : Nat) (E : Ent)
  | box (b : Nat) (o : Obj)
def Res.holds (w : World) (okv : Nat → Prop) : Res → Prop
  | .row A n E => RowE w okv A n E
  | .box b o => okv b ∧ w.heap[b]? = some o
theorem Res.holds.step {w w1 : World} {okv : Nat → Prop} {r : Res} (h : r.holds w okv) (hm : ∀ k, okv k → k < w.heap.size → w1.heap[k]? = w.heap[k]?) : r.holds w1 okv := by
  cases r with
  | row A n E => exact RowE.step h hm
  | box b o => exact ⟨h.1, (hm b h.1 (Array.getElem?_eq_some_iff.1 h.2).1).trans h.2⟩
theorem Res.holds.mono {w : World} {okv okv' : Nat → Prop} {r : Res} (h : r.holds w okv) (hs : ∀ k, okv k → okv' k) : r.holds w okv' := by
  cases r with
  | row A n E => exact RowE.mono h hs
  | box b o => exact ⟨hs _ h.1, h.2⟩
theorem Res.holds.below {w w1 : World} {okv : Nat → Prop} {r : Res} (h : r.holds w okv) (hb : Below w.heap.size w w1) : r.holds w1 okv := h.step (fun k _ hk => hb.block k hk)
theorem Res.holds.bound {w : World} {okv : Nat → Prop} {r : Res} (h : r.holds w okv) : r.holds w (fun k => okv k ∧ k < w.heap.size) := by
  cases r with
  | row A n E => exact RowE.bound h
  | box b o => exact ⟨⟨h.1, (Array.getElem?_eq_some_iff.1 h.2).1⟩, h.2⟩
def SysB (w wr : World) (pd ps : Nat) (S : SM) (rs : List Res) : Prop := ∃ okd okS okv : Nat → Prop, OwnSys w wr pd ps S okd okS ∧ (∀ r ∈ rs, r.holds wr okv) ∧ ∀ k, okv k → k < wr.heap.size ∧ ¬ okd k ∧ ¬ okS k
theorem SysB.start {w wr : World} {pd ps : Nat} {S : SM} {okd okS : Nat → Prop} (h : OwnSys w wr pd ps S okd okS) : SysB w wr pd ps S [.row none 0 []] :=
  ⟨okd, okS, fun _ => False, h, fun r hr => by rw [List.mem_singleton.1 hr]; exact RowE.nil _ _, fun k hk => hk.elim⟩
theorem SysB.sub {w wr : World} {pd ps : Nat} {S : SM} {rs rs' : List Res} (h : SysB w wr pd ps S rs) (hs : ∀ r ∈ rs', r ∈ rs) : SysB w wr pd ps S rs' := by
  obtain ⟨a, b, c, h1, h2, h3⟩ := h
  exact ⟨a, b, c, h1, fun r hr => h2 r (hs r hr), h3⟩
theorem SysB.below {w wr w1 : World} {pd ps : Nat} {S : SM} {rs : List Res} (h : SysB w wr pd ps S rs) (hb : Below wr.heap.size wr w1) : SysB w w1 pd ps S rs := by
  obtain ⟨a, b, c, h1, h2, h3⟩ := h
  exact ⟨a, b, c, h1.below hb, fun r hr => (h2 r hr).below hb, fun k hk => ⟨Nat.lt_of_lt_of_le (h3 k hk).1 hb.size, (h3 k hk).2⟩⟩
theorem SysB.bel {w wr : World} {pd ps : Nat} {S : SM} {rs : List Res} (h : SysB w wr pd ps S rs) : Below w.heap.size w wr := by
  obtain ⟨a, b, c, h1, _⟩ := h
  exact h1.bel
theorem sysB_out {w wr w1 : World} {pd ps : Nat} {S S' : SM} {rs : List Res} {okd okS okv : Nat → Prop} (h1 : OwnSys w wr pd ps S okd okS) (h2 : ∀ r ∈ rs, r.holds wr okv) (h3 : ∀ k, okv k → k < wr.heap.size ∧ ¬ okd k ∧ ¬ okS k)
    (ho : SysOut wr w1 okd okS ps pd S') (hc : Chg (fun k => okd k ∨ okS k) wr w1) : SysB w w1 pd ps S' rs := by
  obtain ⟨a, b, g1, g2, g3, g4, g5⟩ := ho
  have hs := hc.size
  have hs0 := h1.bel.size
  refine ⟨fun k => a k ∧ k < w1.heap.size, fun k => b k ∧ k < w1.heap.size, okv, ⟨g1.bound, g2.bound, fun k q1 q2 => g3 k q1.1 q2.1,
    fun k hk => ⟨(g4 k hk.1).elim (fun e => (h1.gd k e).1) (fun e => Nat.le_trans hs0 e), hk.2⟩, fun k hk => ⟨(g5 k hk.1).elim (fun e => (h1.gs k e).1) (fun e => Nat.le_trans hs0 e), hk.2⟩,
    h1.bel.trans (hc.below_ (B := w.heap.size) hs0 (fun k hk => hk.elim (fun e => (h1.gd k e).1) (fun e => (h1.gs k e).1)))⟩, fun r hr => (h2 r hr).step (fun k hk hlt => hc.block k hlt (fun e => e.elim (h3 k hk).2.1 (h3 k hk).2.2)), fun k hk => ?_⟩
  have q := h3 k hk
  exact ⟨Nat.lt_of_lt_of_le q.1 hs, fun e => (g4 k e.1).elim q.2.1 (fun e2 => by omega), fun e => (g5 k e.1).elim q.2.2 (fun e2 => by omega)⟩
/-- A change. -/
theorem SysB.change {w wr : World} {pd ps : Nat} {S : SM} {rs : List Res} {l : List SR} (h : SysB w wr pd ps S rs) (hg : Good S l) (hm : Room S.D) {o : Op24} (ho : o.ok) {okb : Nat → Prop} {B : Option Addr} {c : Nat} (hF : RB w okb B o.data) (hc : o.data.length ≤ c) :
    Calls Tryz.prog 19 #[.pointer (some ⟨ps, 0, none⟩), .agg (opA o B c)] wr fun e w' => e = .returned (.int .i64 (chF S o).1) ∧ SysB w w' pd ps (chF S o).2 rs := by
  obtain ⟨a, b, v, h1, h2, h3⟩ := h
  refine (change_any h1.d h1.s hg.wf hm hg.alive (fun j hj => (h1.gd j hj).2) (fun j hj => (h1.gs j hj).2) h1.ap (RB_below hF h1.bel) hc ho).mono ?_
  rintro e w' ⟨rfl, hS, hC⟩
  exact ⟨rfl, sysB_out h1 h2 h3 hS hC⟩
/-- A row with a change, beside the others. -/
theorem SysB.with_ {w wr : World} {pd ps : Nat} {S : SM} {rs : List Res} (h : SysB w wr pd ps S rs) {A : Option Addr} {n c : Nat} {E : Ent} (hr : .row A n E ∈ rs) (hs : SortedE E) (hn : n ≤ 65536) {o : Op24} (ho : o.ok) {B : Option Addr} {c2 : Nat} (hF : RB w (fun k => k < w.heap.size) B o.data) (hc : o.data.length ≤ c2) :
    Calls Tryz.prog 33 #[.slice A n c, .agg (opA o B c2)] wr fun e w' => ∃ A' c', e = .returned (.slice A' (withE E o).length c') ∧ SysB w w' pd ps S (.row A' (withE E o).length (withE E o) :: rs) ∧ Below wr.heap.size wr w' := by
  obtain ⟨a, b, v, h1, h2, h3⟩ := h
  refine (with_any (c := c) (h2 _ hr) (RB_below hF h1.bel) hc hs hn ho).mono ?_
  rintro e w' ⟨A', c', rfl, hR, hB⟩
  have hs0 := h1.bel.size
  refine ⟨A', c', rfl, ⟨a, b, fun k => (v k ∨ k < w.heap.size ∨ wr.heap.size ≤ k) ∧ k < w'.heap.size, h1.below hB, fun r hr => ?_, fun k hk => ⟨hk.2, fun e => ?_, fun e => ?_⟩⟩, hB⟩
  · rcases List.mem_cons.1 hr with e | e
    · subst e; exact hR.bound
    · exact (((h2 r e).below hB).bound).mono (fun k hk => ⟨.inl hk.1, hk.2⟩)
  · have q := h1.gd k e
    rcases hk.1 with x | x | x
    · exact (h3 k x).2.1 e
    · omega
    · omega
  · have q := h1.gs k e
    rcases hk.1 with x | x | x
    · exact (h3 k x).2.2 e
    · omega
    · omega
/-- State, beside the others. -/
theorem SysB.state {w wr : World} {pd ps : Nat} {S : SM} {rs : List Res} (h : SysB w wr pd ps S rs) (hwf : S.wf) (hl : S.E.length ≤ 65536) :
    Calls Tryz.prog 26 #[.pointer (some ⟨ps, 0, none⟩)] wr fun e w' => ∃ A' c', e = .returned (.slice A' S.E.length c') ∧ SysB w w' pd ps S (.row A' S.E.length S.E :: rs) ∧ Below wr.heap.size wr w' := by
  obtain ⟨a, b, v, h1, h2, h3⟩ := h
  refine (sstate_any h1.s hwf hl).mono ?_
  rintro e w' ⟨A', c', rfl, hR, hB⟩
  have hs0 := h1.bel.size
  refine ⟨A', c', rfl, ⟨a, b, fun k => (v k ∨ wr.heap.size ≤ k) ∧ k < w'.heap.size, h1.below hB, fun r hr => ?_, fun k hk => ⟨hk.2, fun e => ?_, fun e => ?_⟩⟩, hB⟩
  · rcases List.mem_cons.1 hr with e | e
    · subst e; exact (ent_row hR).bound.mono (fun k hk => ⟨.inr hk.1, hk.2⟩)
    · exact (((h2 r e).below hB).bound).mono (fun k hk => ⟨.inl hk.1, hk.2⟩)
  · have q := h1.gd k e
    rcases hk.1 with x | x
    · exact (h3 k x).2.1 e
    · omega
  · have q := h1.gs k e
    rcases hk.1 with x | x
    · exact (h3 k x).2.2 e
    · omega
/-- Open, of a store as it should be: the new one, on the same disk. -/
theorem SysB.open_ {w wr : World} {pd ps : Nat} {S : SM} {rs : List Res} {l : List SR} (h : SysB w wr pd ps S rs) {S' : SM} (hD : S'.D = S.D) (hg : Good S' l) :
    Calls Tryz.prog 24 #[.pointer (some ⟨pd, 0, none⟩)] wr fun e w' => ∃ p2, e = .returned (.tuple #[.pointer (some ⟨p2, 0, none⟩), .int .i64 0]) ∧ SysB w w' pd ps S rs ∧ SysB w w' pd p2 S' rs ∧ Below wr.heap.size wr w' := by
  obtain ⟨a, b, v, h1, h2, h3⟩ := h
  refine (sopen_good (S := S') (hD ▸ h1.d) hg).mono ?_
  rintro e w' ⟨p2, rfl, hP, hB⟩
  have hs0 := h1.bel.size
  refine ⟨p2, rfl, ⟨a, b, v, h1.below hB, fun r hr => (h2 r hr).below hB, fun k hk => ⟨Nat.lt_of_lt_of_le (h3 k hk).1 hB.size, (h3 k hk).2⟩⟩, ⟨a, fun k => wr.heap.size ≤ k ∧ k < w'.heap.size, v, ⟨?_, hP.bound, fun k q1 q2 => ?_, fun k hk => ?_, fun k hk => ⟨Nat.le_trans hs0 hk.1, hk.2⟩, (h1.below hB).bel⟩, fun r hr => (h2 r hr).below hB, fun k hk => ⟨Nat.lt_of_lt_of_le (h3 k hk).1 hB.size, (h3 k hk).2.1, fun e => ?_⟩⟩, hB⟩
  · rw [hD]; exact (h1.below hB).d
  · have := (h1.gd k q1).2; omega
  · exact (h1.below hB).gd k hk
  · have := (h3 k hk).1; omega
/-- A call that changes the disk alone. -/
theorem SysB.disk {w wr w1 : World} {pd ps : Nat} {S : SM} {rs : List Res} {D : DM} {okd okS okv : Nat → Prop} (h1 : OwnSys w wr pd ps S okd okS) (h2 : ∀ r ∈ rs, r.holds wr okv) (h3 : ∀ k, okv k → k < wr.heap.size ∧ ¬ okd k ∧ ¬ okS k)
    (hd : PDisk w1 okd pd D) (hc : Chg okd wr w1) : SysB w w1 pd ps { S with D := D } rs := by
  have hS : PSto w1 okS ps pd S := h1.s.step (fun k hk hlt => hc.block k hlt (fun e => h1.ap k e hk))
  obtain ⟨okr, hb, mb, dv, hp⟩ := hS
  exact sysB_out h1 h2 h3 ⟨okd, okS, hd, ⟨okr, hb, mb, dv, hp.withD D⟩, h1.ap, fun k hk => .inl hk, fun k hk => .inl hk⟩ (hc.mono (fun k hk => .inl hk))
theorem SysB.cut {w wr : World} {pd ps : Nat} {S : SM} {rs : List Res} (h : SysB w wr pd ps S rs) (n : Int) (hn : n ≤ 9223372036854775807) :
    Calls Tryz.prog 35 #[.pointer (some ⟨pd, 0, none⟩), .int .i64 n] wr fun e w' => e = .returned (.tuple #[]) ∧ SysB w w' pd ps { S with D := S.D.cut n } rs := by
  obtain ⟨a, b, v, h1, h2, h3⟩ := h
  refine (cut_any n h1.d hn).mono ?_
  rintro e w' ⟨rfl, hd, hc⟩
  exact ⟨rfl, SysB.disk h1 h2 h3 hd hc⟩
theorem SysB.on {w wr : World} {pd ps : Nat} {S : SM} {rs : List Res} (h : SysB w wr pd ps S rs) :
    Calls Tryz.prog 36 #[.pointer (some ⟨pd, 0, none⟩)] wr fun e w' => e = .returned (.tuple #[]) ∧ SysB w w' pd ps { S with D := onD S.D } rs := by
  obtain ⟨a, b, v, h1, h2, h3⟩ := h
  refine (on_any h1.d).mono ?_
  rintro e w' ⟨rfl, hd, hc⟩
  exact ⟨rfl, SysB.disk h1 h2 h3 hd hc⟩
theorem SysB.count {w wr : World} {pd ps : Nat} {S : SM} {rs : List Res} (h : SysB w wr pd ps S rs) : Calls Tryz.prog 20 #[.pointer (some ⟨pd, 0, none⟩)] wr fun e w' => e = .returned (.int .i64 S.D.ws.length) ∧ wr = w' := by
  obtain ⟨a, b, v, h1, h2, h3⟩ := h
  exact count_any h1.d
theorem SysB.same {w wr : World} {pd ps : Nat} {S : SM} {rs : List Res} (h : SysB w wr pd ps S rs) {A B : Option Addr} {n m cA cB : Nat} {E F : Ent} (hA : .row A n E ∈ rs) (hB : .row B m F ∈ rs) (hn : n ≤ 65536) (hm : m ≤ 65536) (hE : ∀ x ∈ E, Bytes x.2) (hF : ∀ x ∈ F, Bytes x.2) :
    Calls Tryz.prog 25 #[.slice A n cA, .slice B m cB] wr fun e w' => e = .returned (.bool (decide (E = F))) ∧ SysB w w' pd ps S rs ∧ Below wr.heap.size wr w' := by
  obtain ⟨a, b, v, h1, h2, h3⟩ := h
  refine (same_any (cA := cA) (cB := cB) (h2 _ hA) (h2 _ hB) hn hm hE hF).mono ?_
  rintro e w' ⟨rfl, hB⟩
  exact ⟨rfl, SysB.below ⟨a, b, v, h1, h2, h3⟩ hB, hB⟩
end Go.Proofs.YticogmpafehomaaGreatDoor

set_option linter.unusedVariables false
set_option linter.unusedSimpArgs false
namespace Go.Proofs.YticogmpafehomaaGreatDoor
open Go.RowKit Go.Proofs.YticogmpafehomaaGreatDoorW.PrintWords

end Go.Proofs.YticogmpafehomaaGreatDoor

set_option linter.unusedVariables false
set_option linter.unusedSimpArgs false
namespace Go.Proofs.YticogmpafehomaaGreatDoor
open Go.RowKit Go.Proofs.YticogmpafehomaaGreatDoorW.PrintWords

/-- The document's disk: p the struct's block, g the bytes', wv the recorded writes. -/
structure RDb (w : World) (ok : Nat → Prop) (p : Nat) (D : DM) (g cap : Nat) (wv : Value) : Prop where
  okp : ok p
  okg : ok g
  blk : w.heap[p]? = some (.cells #[.slice (some ⟨g, 0, none⟩) D.b.length cap, .bool D.gone, .int .i64 D.left, wv] 80 (0, 0))
  row : w.ownsRow 0 5 1 (.slice (some ⟨g, 0, none⟩) D.b.length cap) D.b.length (nums .u8 D.b)
  ws : KW.R 257 w 0 (fun k => ok k ∧ k ≠ g) wv D.ws
namespace RDb
variable {w w1 : World} {ok ok' : Nat → Prop} {p : Nat} {D : DM} {g cap : Nat} {wv : Value}
end RDb
end Go.Proofs.YticogmpafehomaaGreatDoor

set_option linter.unusedVariables false
set_option linter.unusedSimpArgs false
namespace Go.Proofs.YticogmpafehomaaGreatDoor
open Go.RowKit Go.Proofs.YticogmpafehomaaGreatDoorW.PrintWords

end Go.Proofs.YticogmpafehomaaGreatDoor

set_option linter.unusedVariables false
set_option linter.unusedSimpArgs false
namespace Go.Proofs.YticogmpafehomaaGreatDoor
open Go.RowKit Go.Proofs.YticogmpafehomaaGreatDoorW.PrintWords

/-! ### Load -/
def DM.load (b : List Int) : DM := ⟨b, -1, false, []⟩
end Go.Proofs.YticogmpafehomaaGreatDoor

set_option linter.unusedVariables false
set_option linter.unusedSimpArgs false
namespace Go.Proofs.YticogmpafehomaaGreatDoor
open Go.RowKit Go.Proofs.YticogmpafehomaaGreatDoorW.PrintWords

end Go.Proofs.YticogmpafehomaaGreatDoor

set_option linter.unusedVariables false
set_option linter.unusedSimpArgs false
namespace Go.Proofs.YticogmpafehomaaGreatDoor
open Go.RowKit Go.Proofs.YticogmpafehomaaGreatDoorW.PrintWords

/-- What writes lay onto bytes. -/
def lay (b : List Int) (l : List (Int × List Int)) : List Int := l.foldl (fun b x => splice b (x.1.toNat * 64) x.2) b
end Go.Proofs.YticogmpafehomaaGreatDoor

set_option linter.unusedVariables false
set_option linter.unusedSimpArgs false
namespace Go.Proofs.YticogmpafehomaaGreatDoor
open Go.RowKit Go.Proofs.YticogmpafehomaaGreatDoorW.PrintWords

end Go.Proofs.YticogmpafehomaaGreatDoor

set_option linter.unusedVariables false
set_option linter.unusedSimpArgs false
namespace Go.Proofs.YticogmpafehomaaGreatDoor
open Go.RowKit Go.Proofs.YticogmpafehomaaGreatDoorW.PrintWords

end Go.Proofs.YticogmpafehomaaGreatDoor

set_option linter.unusedVariables false
set_option linter.unusedSimpArgs false
namespace Go.Proofs.YticogmpafehomaaGreatDoor
open Go.RowKit Go.Maps Go.Proofs.YticogmpafehomaaGreatDoorW.PrintWords Go.Proofs.YticogmpafehomaaGreatDoorW.PrintMore

theorem ws_step {a b k : Nat} (h : b ≤ 1 + 4096 * k) (h2 : a ≤ b + 4096) : a ≤ 1 + 4096 * (k + 1) := Nat.le_trans h2 (Nat.le_trans (Nat.add_le_add_right h 4096) (Nat.le_of_eq (by rw [Nat.mul_succ, Nat.add_assoc])))
theorem Good.bytes {S : SM} {l : List SR} (h : Good S l) : ∀ x ∈ S.E, Bytes x.2 := fun x hx => (h.wf.ent x hx).2.1
/-- A row of Ops that is read: one of them. -/
theorem ops_at {w : World} {A : Option Addr} {n : Nat} {l : List Op24} (hL : KOp24.C w A n l) (hn : l.length = n) {k : Nat} (hk : k < n) (hG : ∀ o ∈ l, o.ok) : ∃ ad o B cb, A = some ad ∧ (∀ j v, (opA o B cb).toList[j]? = some v → w.cell? ((ad.add (k * 4)).add j) = some v) ∧ o.data.length ≤ cb ∧ RB w (fun k => k < w.heap.size) B o.data ∧ o.ok := by
  cases A with
  | none =>
    obtain ⟨_, e, _⟩ := hL.2.2 (by omega)
    cases e
  | some ad =>
    have hkl : k < l.length := by omega
    obtain ⟨B, cb, hcell, hlb, hCb⟩ := op24_at hL hkl
    exact ⟨ad, l[k], B, cb, rfl, hcell, hlb, RB_of_C9 hCb, hG _ (List.getElem_mem hkl)⟩
end Go.Proofs.YticogmpafehomaaGreatDoor

set_option linter.unusedVariables false
set_option linter.unusedSimpArgs false
namespace Go.Proofs.YticogmpafehomaaGreatDoor
open Go.RowKit Go.Maps Go.Proofs.YticogmpafehomaaGreatDoorW.PrintWords Go.Proofs.YticogmpafehomaaGreatDoorW.PrintMore

end Go.Proofs.YticogmpafehomaaGreatDoor

set_option linter.unusedVariables false
set_option linter.unusedSimpArgs false
namespace Go.Proofs.YticogmpafehomaaGreatDoor
open Go.RowKit Go.Maps Go.Proofs.YticogmpafehomaaGreatDoorW.PrintWords Go.Proofs.YticogmpafehomaaGreatDoorW.PrintMore

/-- Between two changes of a cut. -/
def GoesC (w wr : World) (pd ps : Nat) (S : SM) (k : Nat) : Prop := SysB w wr pd ps S [] ∧ (∃ lg, Good S lg) ∧ S.D.ws.length ≤ 1 + 4096 * k
set_option maxRecDepth 100000 in
theorem GoesC.room {w wr : World} {pd ps k : Nat} {S : SM} (h : GoesC w wr pd ps S k) (hk : k ≤ 1048576) : Room S.D := room_le (m := 4294971393) (Nat.le_trans h.2.2 (by omega)) (by decide)
theorem GoesC.small {w wr : World} {pd ps k : Nat} {S : SM} (h : GoesC w wr pd ps S k) (hk : k ≤ 1048576) : S.D.ws.length ≤ 4294971393 := Nat.le_trans h.2.2 (by omega)
theorem room_cut {D : DM} (h : Room D) (c : Int) : Room (D.cut c) := h
def cutV (cl : List Int) (k : Nat) : Int := if k < cl.length then cl.getD k 0 else -1
abbrev KI64c : Kd Int := Kd.int .i64
theorem SysB.dead_ {w wr : World} {pd ps : Nat} {S : SM} {rs : List Res} (h : SysB w wr pd ps S rs) : Calls Tryz.prog 32 #[.pointer (some ⟨ps, 0, none⟩)] wr fun e w' => e = .returned (.bool S.dead) ∧ wr = w' := by
  obtain ⟨a, b, v, h1, h2, h3⟩ := h
  exact sdead_any h1.s
theorem SysB.put_dead {w wr : World} {pd ps : Nat} {S : SM} {rs : List Res} (h : SysB w wr pd ps S rs) (hd : S.dead = true) (hg : ET wr) (k : ByteArray) (A : Option Addr) (n c : Nat) :
    Calls Tryz.prog 22 #[.pointer (some ⟨ps, 0, none⟩), .string k, .slice A n c] wr fun e w' => e = .returned (.int .i64 62) ∧ SysB w w' pd ps S rs ∧ Below wr.heap.size wr w' := by
  obtain ⟨a, b, v, h1, h2, h3⟩ := h
  refine (sput_dead h1.s hd hg k A n c).mono ?_
  rintro e w' ⟨rfl, hB⟩
  exact ⟨rfl, SysB.below ⟨a, b, v, h1, h2, h3⟩ hB, hB⟩
theorem SysB.del_dead {w wr : World} {pd ps : Nat} {S : SM} {rs : List Res} (h : SysB w wr pd ps S rs) (hd : S.dead = true) (hg : ET wr) (k : ByteArray) :
    Calls Tryz.prog 23 #[.pointer (some ⟨ps, 0, none⟩), .string k] wr fun e w' => e = .returned (.int .i64 62) ∧ SysB w w' pd ps S rs ∧ Below wr.heap.size wr w' := by
  obtain ⟨a, b, v, h1, h2, h3⟩ := h
  refine (sdel_dead h1.s hd hg k).mono ?_
  rintro e w' ⟨rfl, hB⟩
  exact ⟨rfl, SysB.below ⟨a, b, v, h1, h2, h3⟩ hB, hB⟩
set_option maxRecDepth 100000 in
set_option maxHeartbeats 4000000 in
theorem storeCut_any {w : World} (x : Int) (hx : -9223372036854775808 ≤ x ∧ x ≤ 9223372036854775807) {A2 A3 : Option Addr} {c2 c3 : Nat} {l : List Op24} (hL : KOp24.C w A2 l.length l) (hll : l.length ≤ 1048576) (hG : ∀ o ∈ l, o.ok) {cl : List Int} (hC : KI64c.C w A3 cl.length cl) (hcl : cl.length ≤ 140737488351232) (hci : ∀ v ∈ cl, -9223372036854775808 ≤ v ∧ v ≤ 9223372036854775807) (het : ET w) :
    Calls Tryz.prog 7 #[.int .i64 x, .slice A2 l.length c2, .slice A3 cl.length c3] w fun e w' => e = .returned (.bool true) ∧ Below w.heap.size w w' := by
  obtain ⟨n, hn⟩ : ∃ n, l.length = n := ⟨_, rfl⟩
  obtain ⟨m, hm⟩ : ∃ m, cl.length = m := ⟨_, rfl⟩
  rw [hn] at hL hll ⊢
  have hCC := hC
  rw [hm] at hC hcl ⊢
  have HL := hid (And.intro hL (And.intro hn hG))
  have HC := hid (And.intro hC (And.intro hm (And.intro hci (And.intro het hCC))))
  clear hL hn hG hC hm hci het hCC
  go_enter Tryz.func7, Tryz.ntmps7
  go_wp2_with fail
  refine (begun_any x hx).mono ?_
  rintro e w1 ⟨pd, ps, S0, rfl, hbg⟩
  obtain ⟨a1, b1, hOS⟩ := hbg.own
  have hlv := live_any (w := w1)
  have HS := hid (And.intro hOS hbg)
  clear hbg hOS
  go_wp2_with fail
  refine hlv.mono ?_
  rintro e w2 ⟨rfl, hB2⟩
  have HG := hid (show GoesC w w2 pd ps S0 0 from ⟨(SysB.start (HS.out.1.below hB2)).sub (fun r hr => by cases hr), ⟨[], HS.out.2.good⟩, by rw [HS.out.2.ws]; omega⟩)
  clear HS hlv hB2
  go_wp2_with fail
  go_loopw [8, 9] (fun sv i wr => ∃ (k ps : Nat) (S : SM), k ≤ n ∧ i = .int .i64 k ∧ sv = .pointer (some ⟨ps, 0, none⟩) ∧ Hid (GoesC w wr pd ps S k)) (fun _ i _ => n - (intOf i).toNat)
  case atStart => exact ⟨0, ps, S0, Nat.zero_le _, rfl, rfl, HG⟩
  case round =>
    obtain ⟨W, hW⟩ : ∃ W : World, W = wr := ⟨_, rfl⟩
    subst hW
    clear HG
    obtain ⟨k, ps, S, hkn, rfl, rfl, hgo⟩ := hrel
    by_cases hlt : k < n
    · have hltI : (k : Int) < (n : Int) := by omega
      have hroom := hgo.out.room (by omega)
      have hsml := hgo.out.small (by omega)
      obtain ⟨hsys, ⟨lg, hg⟩, hws⟩ := hgo.out
      have hlen := hg.len
      obtain ⟨ad, o, B, cb, rfl, hcell, hlb, hRB, hok⟩ := ops_at HL.out.1 HL.out.2.1 hlt HL.out.2.2
      have hsa := hsys.state hg.wf (by omega)
      have HK := hid (And.intro hg (And.intro hroom (And.intro hok (And.intro hRB (And.intro hlb (And.intro hcell (And.intro hws (show S.E.length ≤ 4096 from hlen))))))))
      clear hsys hg hroom hok hRB hlb hcell hws hlen hgo
      go_wp2_with fail
      refine hsa.mono ?_
      rintro e3 w3 ⟨A0, c0, rfl, hs3, _⟩
      have hct := hs3.count
      have HS3 := hid hs3
      clear hsa hs3
      go_wp2_with fail
      refine hct.mono ?_
      rintro e4 w' ⟨rfl, rfl⟩
      clear hct
      go_upto_region 10 with (fail)
      go_cut [44] (fun b wc => b = .bool (decide (k < m)) ∧ wc = w3)
      case first =>
        by_cases hkm : k < m
        · have hkmI : (k : Int) < (m : Int) := by omega
          go_wp2_with fail
          go_meet
          case rel => exact ⟨by rw [decide_eq_true hkm], rfl⟩
        · have hkmI : ¬ (k : Int) < (m : Int) := by omega
          go_wp2_with fail
          go_meet
          case rel => exact ⟨by rw [decide_eq_false hkm], rfl⟩
      case rest =>
        obtain ⟨rfl, hwc⟩ := hcut
        subst hwc
        obtain ⟨w3, hw3⟩ : ∃ w3, w3 = wc := ⟨_, rfl⟩
        subst hw3
        go_upto_if 44 with (fail)
        go_cut [12] (fun cv wc2 => cv = .int .i64 (cutV cl k) ∧ wc2 = w3)
        case first =>
          by_cases hkm : k < m
          · rw [decide_eq_true hkm]
            cases A3 with
            | none =>
              have := C_none HC.out.2.2.2.2
              have := HC.out.2.1
              subst_vars
              simp at hkm
            | some ad3 =>
            have hkc : k < cl.length := by have := HC.out.2.1; omega
            have hcc := pw_cell_below HS3.out.bel (cells_of_C HC.out.2.2.2.2 k (.int .i64 (cl.getD k 0)) (by simp [nums, hkc, List.getD_eq_getElem?_getD]))
            have hcv : cutV cl k = cl.getD k 0 := by unfold cutV; rw [if_pos hkc]
            have HCV := hid hcv
            clear hcv
            generalize cl.getD k 0 = cv at hcc HCV
            go_wp2_with fail
            go_meet
            case rel => exact ⟨by rw [HCV.out], rfl⟩
          · rw [decide_eq_false hkm]
            have hcv : cutV cl k = -1 := by unfold cutV; rw [if_neg (by have := HC.out.2.1; omega)]
            have HCV := hid hcv
            clear hcv
            go_wp2_with fail
            go_meet
            case rel => exact ⟨by rw [HCV.out], rfl⟩
        case rest =>
          obtain ⟨rfl, hwc⟩ := hcut
          subst hwc
          have hcb : -9223372036854775808 ≤ cutV cl k ∧ cutV cl k ≤ 9223372036854775807 := by
            unfold cutV
            split
            · rename_i h
              rw [List.getD_eq_getElem?_getD, List.getElem?_eq_getElem h]
              exact HC.out.2.2.1 _ (List.getElem_mem h)
            · omega
          generalize cutV cl k = c at hcb ⊢
          have hcu := HS3.out.cut c hcb.2
          obtain ⟨S', hcs⟩ := chF_cut HK.out.1 hcb.2 HK.out.2.2.1
          obtain ⟨⟨e, S2⟩, hR⟩ : ∃ R, chF { S with D := S.D.cut c } o = R := ⟨_, rfl⟩
          rw [hR] at hcs
          obtain ⟨hgood, hSD, hws1, hws2, hres⟩ := hcs
          dsimp only at hSD hws1 hws2 hres
          obtain ⟨lg', hg'⟩ := hgood
          have hlen' := hg'.len
          have hwn := withE_len S.E o
          have hE4 := HK.out.2.2.2.2.2.2.2
          have hwn2 : (withE S.E o).length ≤ 65536 := by omega
          obtain ⟨a, ha⟩ : ∃ a, S2.D.ws.length = a := ⟨_, rfl⟩
          obtain ⟨b, hb⟩ : ∃ b, S.D.ws.length = b := ⟨_, rfl⟩
          rw [ha, hb] at hws1 hres
          rw [ha, hb] at hws2
          rw [hb] at hsml
          obtain ⟨d, hd⟩ : ∃ d, (a : Int) - b = d := ⟨_, rfl⟩
          rw [hd] at hres
          have hw1 : IntKind.i64.wrap ((a : Int) - b) = d := by rw [IntKind.wrap_i64]; omega
          have hw2 : IntKind.i64.wrap ((b : Int) + d) = a := by rw [IntKind.wrap_i64]; omega
          obtain ⟨dd, hdd⟩ : ∃ dd, S2.dead = dd := ⟨_, rfl⟩
          rw [hdd] at hres
          have hbw : S'.D.ws.length ≤ 1 + 4096 * (k + 1) := by
            rw [hSD]
            show S2.D.ws.length ≤ _
            rw [ha]
            have := HK.out.2.2.2.2.2.2.1
            rw [hb] at this
            exact ws_step this hws1
          have HR := hid (And.intro hR (And.intro ha (And.intro hdd (And.intro (show Good S' lg' from hg') (And.intro hSD (And.intro hbw (And.intro (show S'.E.length ≤ 4096 from hlen') hwn2)))))))
          have HD := hid hres
          rw [hb]
          clear hR ha hdd hg' hSD hbw hlen' hwn2 hwn hE4 hres hb hd hws1 hws2 hsml
          go_wp2_with fail
          refine hcu.mono ?_
          rintro e5 w5 ⟨rfl, hs5⟩
          have hch := hs5.change (HK.out.1.cut hcb.2) (room_cut HK.out.2.1 c) HK.out.2.2.1 HK.out.2.2.2.1 HK.out.2.2.2.2.1
          rw [HR.out.1] at hch
          dsimp only at hch
          have hcw : ∀ j v, (opA o B cb).toList[j]? = some v → w5.cell? ((ad.add (k * 4)).add j) = some v := fun j v hj => pw_cell_below hs5.bel (HK.out.2.2.2.2.2.1 j v hj)
          unfold opA at hch hcw
          clear hcu hs5 HS3
          go_wp2_with (refine wpList_load_addr rfl 41 (.tmp 55) rfl (ad.add (k * 4)) rfl [.int .i64 o.kind, .int .i64 o.n, .string o.key, .slice B o.data.length cb] _ hcw Tryz.underlying41 rfl (by kernel_rfl) ?_)
          clear hcw
          go_wp2_with fail
          refine hch.mono ?_
          rintro e6 w6 ⟨rfl, hs6⟩
          have hct := hs6.count
          rw [HR.out.2.1] at hct
          have hde := hs6.dead_
          rw [HR.out.2.2.1] at hde
          have hon := hs6.on
          clear hch hs6
          go_wp2_with fail
          refine hct.mono ?_
          rintro e7 w' ⟨rfl, rfl⟩
          clear hct
          go_wp2_with fail
          refine hde.mono ?_
          rintro e7 w' ⟨rfl, rfl⟩
          clear hde
          go_wp2_with fail
          refine hon.mono ?_
          rintro e8 w8 ⟨rfl, hs8⟩
          have HS8 := hid hs8
          clear hon hs8 hw1
          go_upto_if 66 with (fail)
          go_cut [] (fun wc2 => Hid (SysB w wc2 pd ps { S2 with D := onD S2.D } [.row A0 S.E.length S.E]))
          case first =>
            rcases HD.out with ⟨he, hz, hE⟩ | ⟨he, hz, hE⟩ | ⟨he, hz, hE, hE2, hwf2, hc0, hdc⟩
            · have hz : dd = false := hz
              subst hz
              clear he hE
              go_wp2_with fail
              go_meet
              case rel => exact HS8
            · have hz : dd = false := hz
              subst hz
              clear he hE
              go_wp2_with fail
              go_meet
              case rel => exact HS8
            · have hz : dd = true := hz
              subst hz
              obtain rfl : e = 61 := he
              have hdc : d = c := hdc
              subst hdc
              have hn0 : ¬ d < 0 := by omega
              have hpd := HS8.out.put_dead (k := ⟨#[120]⟩) (A := none) (n := 0) (c := 0) HR.out.2.2.1 (HC.out.2.2.2.1.below HS8.out.bel)
              have HE := hid (And.intro hE2 (And.intro hwf2 hE))
              clear hc0 hE2 hwf2 hE
              go_wp2_with fail
              refine hpd.mono ?_
              rintro e9 w9 ⟨rfl, hs9, _⟩
              have hdl := hs9.del_dead (k := ⟨#[120]⟩) HR.out.2.2.1 (HC.out.2.2.2.1.below hs9.bel)
              clear hpd hs9
              go_wp2_with fail
              refine hdl.mono ?_
              rintro e10 w10 ⟨rfl, hs10, _⟩
              have hsa := hs10.state (HE.out.2.1.disk (onD_wf HE.out.2.1.d) rfl) (show S2.E.length ≤ 65536 by rw [HE.out.1]; have := HK.out.2.2.2.2.2.2.2; omega)
              clear hdl hs10
              go_wp2_with fail
              refine hsa.mono ?_
              rintro e11 w11 ⟨A8, c8, rfl, hs11, _⟩
              have hsm := hs11.same (A := A8) (B := A0) (cA := c8) (cB := c0) (E := S2.E) (F := S.E) (n := S2.E.length) (m := S.E.length) (by simp) (by simp) (by rw [HE.out.1]; have := HK.out.2.2.2.2.2.2.2; omega) (by have := HK.out.2.2.2.2.2.2.2; omega) (fun x hx => (HE.out.2.1.ent x hx).2.1) HK.out.1.bytes
              rw [decide_eq_true HE.out.1] at hsm
              clear hsa hs11
              go_wp2_with fail
              refine hsm.mono ?_
              rintro e12 w12 ⟨rfl, hs12, _⟩
              have HZ := hid (hs12.sub (rs' := [.row A0 S.E.length S.E]) (fun r hr => by rw [List.mem_singleton.1 hr]; simp))
              clear hsm hs12
              go_wp2_with fail
              go_meet
              case rel => exact HZ
          case rest =>
            clear HS8
            have hs13 := hcut.out
            have hop := hs13.open_ (S' := S') HR.out.2.2.2.2.1 HR.out.2.2.2.1
            clear hs13 hcut
            go_wp2_with fail
            refine hop.mono ?_
            rintro e14 w14 ⟨p2, rfl, hsA, hsB, _⟩
            have hct := hsA.count
            have hct : Calls Tryz.prog 20 #[.pointer (some ⟨pd, 0, none⟩)] w14 fun e w' => e = .returned (.int .i64 (a : Int)) ∧ w14 = w' := by
              rw [← HR.out.2.1]
              exact hct
            have hsa := hsB.state HR.out.2.2.2.1.wf (by have := HR.out.2.2.2.2.2.2.1; omega)
            clear hop hsA hsB
            go_wp2_with fail
            refine hct.mono ?_
            rintro e15 w' ⟨rfl, rfl⟩
            clear hct
            go_wp2_with fail
            refine hsa.mono ?_
            rintro e16 w16 ⟨A9, c9, rfl, hs16, _⟩
            have hwi := hs16.with_ (A := A0) (n := S.E.length) (c := c0) (E := S.E) (by simp) HK.out.1.wf.sorted (by have := HK.out.2.2.2.2.2.2.2; omega) HK.out.2.2.1 HK.out.2.2.2.1 HK.out.2.2.2.2.1
            have hcw : ∀ j v, (opA o B cb).toList[j]? = some v → w16.cell? ((ad.add (k * 4)).add j) = some v := fun j v hj => pw_cell_below hs16.bel (HK.out.2.2.2.2.2.1 j v hj)
            unfold opA at hwi hcw
            clear hsa hs16
            go_wp2_with (refine wpList_load_addr rfl 41 (.tmp 119) rfl (ad.add (k * 4)) rfl [.int .i64 o.kind, .int .i64 o.n, .string o.key, .slice B o.data.length cb] _ hcw Tryz.underlying41 rfl (by kernel_rfl) ?_)
            clear hcw
            go_wp2_with fail
            refine hwi.mono ?_
            rintro e17 w17 ⟨A10, c10, rfl, hs17, _⟩
            have HS := hid hs17
            clear hwi hs17 hw2
            go_upto_block 2 with (fail)
            go_cut [] (fun wc3 => Hid (SysB w wc3 pd p2 S' []))
            case first =>
              rcases HD.out with ⟨he, hz, hE⟩ | ⟨he, hz, hE⟩ | ⟨he, hz, hE, hx1, hx2, hx3, hx4⟩
              · obtain rfl : e = 0 := he
                clear hz
                have hsm := HS.out.same (A := A9) (B := A10) (cA := c9) (cB := c10) (E := S'.E) (F := withE S.E o) (n := S'.E.length) (m := (withE S.E o).length) (by simp) (by simp) (by have := HR.out.2.2.2.2.2.2.1; omega) HR.out.2.2.2.2.2.2.2 HR.out.2.2.2.1.bytes (withE_bytes HK.out.1.bytes HK.out.2.2.1)
                rw [decide_eq_true hE] at hsm
                clear hE
                go_wp2_with fail
                refine hsm.mono ?_
                rintro e18 w18 ⟨rfl, hs18, _⟩
                have HZ := hid (hs18.sub (rs' := []) (fun r hr => by cases hr))
                clear hsm hs18
                go_wp2_with fail
                go_meet
                case rel => exact HZ
              · have hsm := HS.out.same (A := A9) (B := A0) (cA := c9) (cB := c0) (E := S'.E) (F := S.E) (n := S'.E.length) (m := S.E.length) (by simp) (by simp) (by have := HR.out.2.2.2.2.2.2.1; omega) (by have := HK.out.2.2.2.2.2.2.2; omega) HR.out.2.2.2.1.bytes HK.out.1.bytes
                rw [decide_eq_true hE] at hsm
                have hz : dd = false := hz
                subst hz
                have he2 : (e == 0) = false := by simpa using he
                clear hE he
                go_wp2_with fail
                refine hsm.mono ?_
                rintro e18 w18 ⟨rfl, hs18, _⟩
                have HZ := hid (hs18.sub (rs' := []) (fun r hr => by cases hr))
                clear hsm hs18
                go_wp2_with fail
                go_meet
                case rel => exact HZ
              · have hsm := HS.out.same (A := A9) (B := A0) (cA := c9) (cB := c0) (E := S'.E) (F := S.E) (n := S'.E.length) (m := S.E.length) (by simp) (by simp) (by have := HR.out.2.2.2.2.2.2.1; omega) (by have := HK.out.2.2.2.2.2.2.2; omega) HR.out.2.2.2.1.bytes HK.out.1.bytes
                rw [decide_eq_true hE] at hsm
                have hz : dd = true := hz
                subst hz
                obtain rfl : e = 61 := he
                clear hE hx1 hx2 hx3 hx4
                obtain ⟨q, hq⟩ : ∃ q, (d == 0) = q := ⟨_, rfl⟩
                cases q with
                | true =>
                  go_wp2_with fail
                  refine hsm.mono ?_
                  rintro e18 w18 ⟨rfl, hs18, _⟩
                  have HZ := hid (hs18.sub (rs' := []) (fun r hr => by cases hr))
                  clear hsm hs18
                  go_wp2_with fail
                  go_meet
                  case rel => exact HZ
                | false =>
                  go_wp2_with fail
                  refine hsm.mono ?_
                  rintro e18 w18 ⟨rfl, hs18, _⟩
                  have HZ := hid (hs18.sub (rs' := []) (fun r hr => by cases hr))
                  clear hsm hs18
                  go_wp2_with fail
                  go_meet
                  case rel => exact HZ
            case rest =>
              clear HS
              have HZ := hid (show GoesC w wc pd p2 S' (k + 1) from ⟨hcut.out, ⟨lg', HR.out.2.2.2.1⟩, HR.out.2.2.2.2.2.1⟩)
              go_wp2
              go_roundw
              case rel => exact ⟨k + 1, p2, S', by omega, by go_num, rfl, HZ⟩
              case measure => simp [intOf]; omega
    · obtain rfl : k = n := by omega
      have HZ := hid hgo.out.1.bel
      clear hgo
      go_wp2
      go_ret
      exact ⟨rfl, HZ.out⟩
end Go.Proofs.YticogmpafehomaaGreatDoor

set_option linter.unusedVariables false
set_option linter.unusedSimpArgs false
namespace Go.Proofs.YticogmpafehomaaGreatDoor
open Go.RowKit Go.Proofs.YticogmpafehomaaGreatDoorW.PrintWords

theorem opensM_ints24 : OpensM Tryz.prog 64 (Kd.slice 3 (Kd.int .i64)) (fun xs => (∀ x ∈ xs, (Lit.int .i64 x).wf = true) ∧ xs.length * 8 ≤ 140737488351232) (fun xs => (xs.map (fun _ => 1)).sum + 1) :=
  opensM_slice Tryz.underlying64 (by kernel_rfl) (by kernel_rfl) ((opens_int Tryz.underlying3).one)
theorem storeCut_row {W : World} {x : Int} (hx : (Lit.int .i64 x).wf = true) {A A2 : Option Addr} {c c2 : Nat} {l : List Op24} (hL : KOp24.C W A l.length l) (hl : (l.map (fun _ => 1)).sum + 1 ≤ 1048576) (hG : (∀ o ∈ l, o.ok) ∧ l.length * 56 ≤ 140737488351232)
    {cl : List Int} (hC : (Kd.int .i64).C W A2 cl.length cl) (hci : (∀ v ∈ cl, (Lit.int .i64 v).wf = true) ∧ cl.length * 8 ≤ 140737488351232) (het : ET W) :
    Calls Tryz.prog 7 #[.int .i64 x, .slice A l.length c, .slice A2 cl.length c2] W fun e W' => e = .returned (.bool true) ∧ Below W.heap.size W W' :=
  storeCut_any x (bounds_i64 hx) hL (ones_len24 hl) hG.1 hC (by have := hci.2; omega) (fun v hv => bounds_i64 (hci.1 v hv)) het
end Go.Proofs.YticogmpafehomaaGreatDoor

set_option linter.unusedVariables false
set_option linter.unusedSimpArgs false
namespace Go.Proofs.YticogmpafehomaaGreatDoor
open Go.ChangeShapes Go.WideShapes Go.ChangeAt Go.RowKit Go.Proofs.YticogmpafehomaaGreatDoorW.PrintWords
open Go.ChangeMaps (open_string shut_string)
set_option linter.unusedVariables false
set_option maxRecDepth 100000 in
theorem storeCut_contract (H : Type) (enc : TypeId × Value → H) (W : World) (base : Nat) (args : Array Value) (ds gs : List (DataW H)) (before : List MemPlace)
    (hval0 : ∀ (j : Nat) t v, Tryz.f7.params[j]? = some t → args[j]? = some v → Value.okWide Tryz.prog W .any base t v)
    (hW : DataW.Whole enc Tryz.prog Tryz.f7.params.toList Rows.storeCutSpec.vars false W args.toList ds gs before)
    (hsz0 : (DataW.weightsEach Tryz.prog (Tryz.f7.params.toList ++ Rows.storeCutSpec.plain.varTypes Tryz.prog) (ds ++ gs)).all (· ≤ reachBytes) = true) (hk0 : Rows.uptoSmall H (ds ++ gs) = true) (N : NOK W) :
    Calls Tryz.prog 7 args W fun e W' => ∃ v, e = .returned v ∧ Rows.storeCutSpec.post enc Tryz.prog Tryz.f7 false true false false W args v W' := by
  have hsz := hsz0
  have hk : Rows.uptoBulkAll (ds ++ gs) ≤ 1048576 := by simpa [Rows.uptoSmall] using hk0
  have hval := hval0
  have hW' := hW
  obtain ⟨p, q, hA0, hV, rfl, hfz, hnd⟩ := hW
  have hA : DataW.TrodAll enc Tryz.prog W 0 (fun _ => true) true Tryz.f7.params.toList args.toList ds p := hA0
  rw [Tryz.params7] at hA hval hsz
  obtain ⟨v0, vs0, d0, ds0, p0, q0, hargs, rfl, rfl, h0, r0⟩ := trodAll_cons hA
  obtain ⟨v1, vs1, d1, ds1, p1, q1, rfl, rfl, rfl, h1, r1⟩ := trodAll_cons r0
  obtain ⟨v2, vs2, d2, ds2, p2, q2, rfl, rfl, rfl, h2, r2⟩ := trodAll_cons r1
  obtain ⟨rfl, rfl, rfl⟩ := trodAll_nil r2
  obtain rfl : args = #[v0, v1, v2] := by cases args; simp_all
  obtain ⟨rfl, rfl⟩ := trodVars_none hV
  obtain ⟨n0, rfl, rfl, rfl, g0⟩ := open_int Tryz.underlying3 (hval 0 3 v0 rfl rfl) h0
  have lt1 : ∀ x ∈ p1, x.block < W.heap.size := by obtain ⟨m, hm⟩ := h1; exact DataW.trod_lt m _ _ _ hm
  obtain ⟨A1, len1, c1, rfl⟩ := okWide_slice Tryz.underlying39 (hval 1 39 v1 rfl rfl)
  obtain ⟨l1, rfl, hl1, k1, g1, b1⟩ := opensM_slice_arg opensM_ops24 hsz hk (j := 1) (t := 39) rfl rfl h1
  have lt2 : ∀ x ∈ p2, x.block < W.heap.size := by obtain ⟨m, hm⟩ := h2; exact DataW.trod_lt m _ _ _ hm
  obtain ⟨A2, len2, c2, rfl⟩ := okWide_slice Tryz.underlying64 (hval 2 64 v2 rfl rfl)
  obtain ⟨l2, rfl, hl2, k2, g2, b2⟩ := opensM_slice_arg opensM_ints24 hsz hk (j := 2) (t := 64) rfl rfl h2
  clear hA0 hval0 hsz0 hsz hk hk0
  refine (storeCut_row g0 k1 b1 g1 k2 g2 N.et).mono fun e W' ⟨he, bel⟩ => ?_
  subst he
  exact ⟨_, rfl, _, _, _, [], _, [], hW', trodAll_mk1 (shut_bool Tryz.underlying4 _), (trodAll_cons_mk (shut_int Tryz.underlying3 g0) (trodAll_cons_mk (Below.trod names_laidOut (by kernel_rfl) (of_decide_eq_true (by kernel_rfl)) h1 bel lt1) (trodAll_cons_mk (Below.trod names_laidOut (by kernel_rfl) (of_decide_eq_true (by kernel_rfl)) h2 bel lt2) trodAll_mk0))), rfl, bel.frame _, fun h => by cases h⟩
theorem storeCut_reads (os : Os) {H : Type} (enc : TypeId × Value → H) : ∃ places, DataW.whole enc Tryz.prog ((laidWorld os).forCall (fun _ _ => 0) ⟨#[], #[.int .i64 0, .slice none 0 0, .slice none 0 0], []⟩).memory Tryz.f7.params.toList Rows.storeCutSpec.vars false (#[.int .i64 0, .slice none 0 0, .slice none 0 0] : Array Value).toList 8 = some ([.lit (.int .i64 0), .nil, .nil], [], places) :=
  ⟨[], by kernel_rfl⟩
set_option maxRecDepth 100000 in
theorem storeCut_lifted (os : Os) (started : os.Started) (H : Type) (enc : TypeId × Value → H) (F : Stop.Interp) :
    ReturnsInHanded {} Tryz.checked os 7 .any ((Rows.OpenSpec.upto Rows.storeCutSpec).preRow enc Tryz.prog Tryz.f7 Rows.storeCutUptoRow.domain false Rows.storeCutUptoRow.laid) (((Rows.OpenSpec.upto Rows.storeCutSpec).at F).post enc Tryz.prog Tryz.f7 false true false false) := by
  obtain ⟨places, hx⟩ := storeCut_reads os enc
  refine returnsInHanded_of_row (C := Tryz.checked) (s := Rows.OpenSpec.upto Rows.storeCutSpec) names_own started (by kernel_rfl) Tryz.func7
    (witness_row_atRef (enc := enc) (C := Tryz.checked) false (laidWorld os) #[.int .i64 0, .slice none 0 0, .slice none 0 0] rfl (by kernel_rfl) (by kernel_rfl) (by kernel_rfl)
      (OpenSpec.preRow_of_cond 8 hx (by kernel_rfl) (fun k hk => by cases hk; kernel_rfl) (by kernel_rfl) (laid_met os _))) ?_
  intro W base args ds gs before hval hW _ hcond hsz hL hsh _
  exact storeCut_contract H enc W base args ds gs before hval hW hsz (hcond _ rfl) (NOK_of hL hsh)
theorem storeCut_said : Rows.StoreCutUptoSaid :=
  OpenClaim.holds_of_cond 7 Tryz.f7 rfl rfl rfl rfl rfl rfl rfl ⟨rfl, rfl, rfl, rfl, rfl⟩ rfl rfl rfl rfl rfl (by kernel_rfl) Tryz.func7 (by kernel_rfl)
    (of_decide_eq_true (by kernel_rfl)) (by unfold Func.isWrapper; first | (rw [if_pos (by decide +kernel)]; kernel_rfl) | (rw [if_neg (by decide +kernel)]; exact ⟨rfl, rfl⟩))
    (fun os started H enc _ F => by rw [OpenClaim.pre_eq_preRow]; exact storeCut_lifted os started H enc F)
theorem storeCut_plain (f : FuncId) (fn : Func) (hf : Tryz.pinned.checked.prog.funcNamed "foundry/foundrylaw24.StoreCut" = some f) (hfn : Tryz.pinned.checked.prog.funcs[f]? = some fn) :
    true = Tryz.pinned.checked.prog.looks [] ∧ ∀ (j : Nat) t, fn.params[j]? = some t → Tryz.pinned.checked.prog.wantsStandIn t = false := by
  obtain rfl : f = 7 := Option.some.inj ((show Tryz.prog.funcNamed "foundry/foundrylaw24.StoreCut" = some 7 by kernel_rfl).symm.trans hf) |>.symm
  obtain rfl : fn = Tryz.f7 := (Option.some.inj (Tryz.func7.symm.trans hfn)).symm
  refine ⟨by kernel_rfl, fun j t ht => ?_⟩
  rw [Tryz.params7] at ht
  have hm := Array.mem_of_getElem? ht
  have hall : (#[3, 39, 64] : Array Nat).all (fun t => !(Tryz.prog.wantsStandIn t)) = true := by kernel_rfl
  have := Array.all_eq_true'.1 hall t hm
  have h2 : Tryz.prog.wantsStandIn t = false := by simpa using this
  exact h2
/-- The card, for the claim. -/
theorem storeCut_holds : Rows.StoreCutUptoCardSaid :=
  Claim7.holds_tied_plain_at .later [] _ _ _ _ storeCut_said (fun _ h => by cases h) (by kernel_rfl) (fun _ h => by cases h) storeCutUpto_row_tie rfl ⟨rfl, rfl⟩ (by kernel_rfl) rfl storeCut_plain (by kernel_rfl)
#print axioms storeCut_holds
end Go.Proofs.YticogmpafehomaaGreatDoor
