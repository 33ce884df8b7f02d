/- PROVED: StoreAsSaid answers true, and leaves what it was given as it was; where what it reads is of bulk at most 1048576, errors.errorType as the program's text lays it. -/
import Derived.Test.YticogmpafehomaaGreatDoorCards
import Derived.Test.YticogmpafehomaaGreatDoorTie
import Derived.WalkKit
import Derived.ProofKit
import Derived.OpenShut
import Derived.ShutString
import Derived.ChangeOld
import Derived.Below
import Derived.SizedLaws
import Derived.Deep.DeepHandedRow
import Derived.Deep.DeepWitnessRowRef
import Derived.JoinedCond
import Derived.Test.YticogmpafehomaaGreatDoorGKSA4
import Derived.Test.YticogmpafehomaaGreatDoorGKSA1

set_option linter.unusedVariables false
set_option linter.unusedSimpArgs false
namespace Go.Proofs.YticogmpafehomaaGreatDoor
open Go.RowKit Go.Proofs.YticogmpafehomaaGreatDoorW.PrintWords

end Go.Proofs.YticogmpafehomaaGreatDoor

set_option linter.unusedVariables false
set_option linter.unusedSimpArgs false
namespace Go.Proofs.YticogmpafehomaaGreatDoor
open Go.RowKit Go.Maps Go.Proofs.YticogmpafehomaaGreatDoorW.PrintWords Go.Proofs.YticogmpafehomaaGreatDoorW.PrintMore

theorem ws_step {a b k : Nat} (h : b ≤ 1 + 4096 * k) (h2 : a ≤ b + 4096) : a ≤ 1 + 4096 * (k + 1) := Nat.le_trans h2 (Nat.le_trans (Nat.add_le_add_right h 4096) (Nat.le_of_eq (by rw [Nat.mul_succ, Nat.add_assoc])))
theorem Good.bytes {S : SM} {l : List SR} (h : Good S l) : ∀ x ∈ S.E, Bytes x.2 := fun x hx => (h.wf.ent x hx).2.1
/-- A row of Ops that is read: one of them. -/
theorem ops_at {w : World} {A : Option Addr} {n : Nat} {l : List Op24} (hL : KOp24.C w A n l) (hn : l.length = n) {k : Nat} (hk : k < n) (hG : ∀ o ∈ l, o.ok) : ∃ ad o B cb, A = some ad ∧ (∀ j v, (opA o B cb).toList[j]? = some v → w.cell? ((ad.add (k * 4)).add j) = some v) ∧ o.data.length ≤ cb ∧ RB w (fun k => k < w.heap.size) B o.data ∧ o.ok := by
  cases A with
  | none =>
    obtain ⟨_, e, _⟩ := hL.2.2 (by omega)
    cases e
  | some ad =>
    have hkl : k < l.length := by omega
    obtain ⟨B, cb, hcell, hlb, hCb⟩ := op24_at hL hkl
    exact ⟨ad, l[k], B, cb, rfl, hcell, hlb, RB_of_C9 hCb, hG _ (List.getElem_mem hkl)⟩
end Go.Proofs.YticogmpafehomaaGreatDoor

set_option linter.unusedVariables false
set_option linter.unusedSimpArgs false
namespace Go.Proofs.YticogmpafehomaaGreatDoor
open Go.RowKit Go.Maps Go.Proofs.YticogmpafehomaaGreatDoorW.PrintWords Go.Proofs.YticogmpafehomaaGreatDoorW.PrintMore

theorem box_cells {w : World} {b : Nat} {cs : Array Value} {t : TypeId} (h : w.heap[b]? = some (.cells cs t (0, 0))) : ∀ j v, cs.toList[j]? = some v → w.cell? ((⟨b, 0, none⟩ : Addr).add j) = some v := fun j v hj => by
  have hadd : (⟨b, 0, none⟩ : Addr).add j = ⟨b, j, none⟩ := by unfold Addr.add; by_cases hj : j = 0 <;> simp [hj]
  rw [hadd, cell_of_row w b j _ _ _ h]
  simpa using hj
/-- Between two changes; the row beside says the state. -/
def GoesB (w wr : World) (pd ps : Nat) (S : SM) (A : Option Addr) (k : Nat) : Prop := SysB w wr pd ps S [.row A S.E.length S.E] ∧ (∃ lg, Good S lg) ∧ S.D.left < 0 ∧ S.D.ws.length ≤ 1 + 4096 * k ∧ Tight S (k + 1)
set_option maxRecDepth 100000 in
theorem GoesB.room {w wr : World} {pd ps k : Nat} {S : SM} {A : Option Addr} (h : GoesB w wr pd ps S A k) (hk : k ≤ 1048576) : Room S.D := room_le (m := 4294971393) (Nat.le_trans h.2.2.2.1 (by omega)) (by decide)
/-- What a change has made, where the numbers are small. -/
theorem Step.three {S : SM} {o : Op24} {R : Int × SM} (h : Step S o R) {k : Nat} (ht : Tight S (k + 1)) (hk : k ≤ 1048576) :
    (R.1 = 0 ∧ withE S.E o = R.2.E) ∨ (R.1 = 63 ∧ R.2 = S ∧ o.kind = 1 ∧ (sizeM S.D : Int) < blocksE (withE S.E o)) ∨ ((R.1 = 1 ∨ R.1 = 3) ∧ R.2 = S) := by
  rcases h.res with ⟨a, b⟩ | ⟨a, b, c⟩ | ⟨a, b⟩ | ⟨a, b⟩
  · exact .inl ⟨a, b.symm⟩
  · exact .inr (.inl ⟨by rw [a], by rw [a], b, c⟩)
  · exact .inr (.inr ⟨a, b⟩)
  · have h1 := ht.n
    have h2 := ht.g
    unfold mostN at b
    omega
theorem SysB.half {w wr : World} {pd ps : Nat} {S : SM} {rs : List Res} (h : SysB w wr pd ps S rs) : Calls Tryz.prog 30 #[.pointer (some ⟨ps, 0, none⟩)] wr fun e w' => e = .returned (.int .i64 (sizeM S.D)) ∧ wr = w' := by
  obtain ⟨a, b, v, h1, h2, h3⟩ := h
  exact shalf_any h1.s h1.d
theorem SysB.used {w wr : World} {pd ps : Nat} {S : SM} {rs : List Res} (h : SysB w wr pd ps S rs) : Calls Tryz.prog 31 #[.pointer (some ⟨ps, 0, none⟩)] wr fun e w' => e = .returned (.int .i64 S.H.tail) ∧ wr = w' := by
  obtain ⟨a, b, v, h1, h2, h3⟩ := h
  exact sused_any h1.s
theorem SysB.live {w wr : World} {pd ps : Nat} {S : SM} {rs : List Res} (h : SysB w wr pd ps S rs) (hs : SortedE S.E) (hl : S.E.length ≤ 65536) (hb : ∀ x ∈ S.E, x.2.length ≤ 131072) :
    Calls Tryz.prog 29 #[.pointer (some ⟨ps, 0, none⟩)] wr fun e w' => e = .returned (.int .i64 (blocksE S.E)) ∧ SysB w w' pd ps S rs ∧ Below wr.heap.size wr w' := by
  obtain ⟨a, b, v, h1, h2, h3⟩ := h
  refine (slive_any h1.s hs hl hb).mono ?_
  rintro e w' ⟨rfl, hB⟩
  exact ⟨rfl, SysB.below ⟨a, b, v, h1, h2, h3⟩ hB, hB⟩
theorem Good.bound {S : SM} {l : List SR} (h : Good S l) : blocksE S.E ≤ S.H.tail ∧ S.H.tail ≤ sizeM S.D ∧ sizeM S.D ≤ 65536 := by
  have h1 := h.blk
  have h2 := h.wf.ts
  rw [h.wf.size] at h2
  have h3 := half_in h.wf.d (K := 0) (by omega)
  refine ⟨by rw [h.H]; exact h1, h2, by omega⟩
set_option maxRecDepth 100000 in
set_option maxHeartbeats 4000000 in
theorem storeAsSaid_any {w : World} (x : Int) (hx : -9223372036854775808 ≤ x ∧ x ≤ 9223372036854775807) {A2 : Option Addr} {c2 : Nat} {l : List Op24} (hL : KOp24.C w A2 l.length l) (hll : l.length ≤ 1048576) (hG : ∀ o ∈ l, o.ok) :
    Calls Tryz.prog 6 #[.int .i64 x, .slice A2 l.length c2] w fun e w' => e = .returned (.bool true) ∧ Below w.heap.size w w' := by
  obtain ⟨n, hn⟩ : ∃ n, l.length = n := ⟨_, rfl⟩
  rw [hn] at hL hll ⊢
  have HL := hid (And.intro hL (And.intro hn hG))
  clear hL hn hG
  go_enter Tryz.func6, Tryz.ntmps6
  go_wp2_with fail
  refine (begun_any x hx).mono ?_
  rintro e w1 ⟨pd, ps, S0, rfl, hbg⟩
  obtain ⟨a1, b1, hOS⟩ := hbg.own
  have hlv := live_any (w := w1)
  have HS := hid (And.intro hOS hbg)
  clear hbg hOS
  go_wp2_with fail
  refine hlv.mono ?_
  rintro e w2 ⟨rfl, hB2⟩
  have HG := hid (show GoesB w w2 pd ps S0 none 0 from ⟨by rw [HS.out.2.e]; exact SysB.start (HS.out.1.below hB2), ⟨[], HS.out.2.good⟩, HS.out.2.left, by rw [HS.out.2.ws]; omega, HS.out.2.tight⟩)
  have HE := hid HS.out.2.e
  clear HS hlv hB2
  go_wp2_with fail
  go_loopw [6, 7, 8] (fun sv stv i wr => ∃ (k ps : Nat) (S : SM) (A3 : Option Addr) (c3 : Nat), k ≤ n ∧ i = .int .i64 k ∧ sv = .pointer (some ⟨ps, 0, none⟩) ∧ stv = .slice A3 S.E.length c3 ∧ Hid (GoesB w wr pd ps S A3 k)) (fun _ _ i _ => n - (intOf i).toNat)
  case atStart => exact ⟨0, ps, S0, none, 0, Nat.zero_le _, rfl, rfl, by rw [HE.out]; rfl, HG⟩
  case round =>
    obtain ⟨W, hW⟩ : ∃ W : World, W = wr := ⟨_, rfl⟩
    subst hW
    clear HG HE
    obtain ⟨k, ps, S, A3, c3, hkn, rfl, rfl, rfl, hgo⟩ := hrel
    by_cases hlt : k < n
    · have hltI : (k : Int) < (n : Int) := by omega
      have hroom := hgo.out.room (by omega)
      obtain ⟨hsys, ⟨lg, hg⟩, hleft, hws, htg⟩ := hgo.out
      have hlen := hg.len
      obtain ⟨ad, o, B, cb, rfl, hcell, hlb, hRB, hok⟩ := ops_at HL.out.1 HL.out.2.1 hlt HL.out.2.2
      have hst := chF_step hg hleft hok
      have hcw : ∀ j v, (opA o B cb).toList[j]? = some v → W.cell? ((ad.add (k * 4)).add j) = some v := fun j v hj => pw_cell_below hsys.bel (hcell j v hj)
      have hs1 := hsys.boxed (opA o B cb) 41
      have hbc := box_cells (hs1.box (List.mem_cons_self ..))
      have hwi := hs1.with_ (c := c3) (A := A3) (n := S.E.length) (E := S.E) (by simp) hg.wf.sorted (by omega) hok hRB hlb
      have hwt := hst.three htg (by omega)
      have htg2 := hst.tight _ htg
      obtain ⟨⟨e, S2⟩, hR⟩ : ∃ R, chF S o = R := ⟨_, rfl⟩
      rw [hR] at hst hwt htg2
      dsimp only at hst hwt htg2
      have hws2 := ws_step hws hst.ws
      have hl2 := hst.left
      obtain ⟨lg2, hg2⟩ := hst.good
      have HK := hid (And.intro hg (And.intro hroom (And.intro hok (And.intro hRB (And.intro hlb hR)))))
      have HN := hid (show ∃ lg, Good S2 lg from ⟨lg2, hg2⟩)
      have HM := hid (And.intro hl2 (And.intro hws2 htg2))
      have hwe := withE_len S.E o
      have hwl : (withE S.E o).length ≤ 65536 := by omega
      have HW := hid (And.intro hwt hwl)
      unfold opA at hcw hbc hwi
      clear hst hws hleft hRB hlb hR hsys hgo hroom hws2 hl2 hcell htg htg2 hg hg2 hwt hs1 hwe hwl
      go_wp2_with (first | (refine wpList_load_addr rfl 41 (.tmp 34) rfl (ad.add (k * 4)) rfl [.int .i64 o.kind, .int .i64 o.n, .string o.key, .slice B o.data.length cb] _ hcw Tryz.underlying41 rfl (by kernel_rfl) ?_) | (refine wpList_load_addr rfl 41 (.tmp 9) rfl ⟨W.heap.size, 0, none⟩ rfl [.int .i64 o.kind, .int .i64 o.n, .string o.key, .slice B o.data.length cb] _ hbc Tryz.underlying41 rfl (by kernel_rfl) ?_))
      clear hcw hbc
      go_wp2_with fail
      refine hwi.mono ?_
      rintro e6 w6 ⟨A6, c6, rfl, hs6, _⟩
      have hct := hs6.count
      have hb6 := box_cells (hs6.box (b := W.heap.size) (o := .cells #[.int .i64 o.kind, .int .i64 o.n, .string o.key, .slice B o.data.length cb] 41) (by simp))
      have hch := hs6.change HK.out.1 HK.out.2.1 HK.out.2.2.1 HK.out.2.2.2.1 HK.out.2.2.2.2.1
      rw [HK.out.2.2.2.2.2] at hch
      dsimp only at hch
      unfold opA at hb6 hch
      clear hwi hs6
      go_wp2_with fail
      refine hct.mono ?_
      rintro e w' ⟨rfl, rfl⟩
      clear hct
      go_wp2_with (refine wpList_load_addr rfl 41 (.tmp 9) rfl ⟨W.heap.size, 0, none⟩ rfl [.int .i64 o.kind, .int .i64 o.n, .string o.key, .slice B o.data.length cb] _ hb6 Tryz.underlying41 rfl (by kernel_rfl) ?_)
      clear hb6
      go_wp2_with fail
      refine hch.mono ?_
      rintro e7 w7 ⟨rfl, hs7⟩
      have HS := hid hs7
      clear hch hs7
      go_upto_block 2 with (fail)
      go_cut [7] (fun stv wc => ∃ A4 c4, stv = .slice A4 S2.E.length c4 ∧ Hid (SysB w wc pd ps S2 [.row A4 S2.E.length S2.E, .box W.heap.size (.cells #[.int .i64 o.kind, .int .i64 o.n, .string o.key, .slice B o.data.length cb] 41)]))
      case first =>
        rcases HW.out.1 with ⟨h0, hwe⟩ | ⟨h63, hSS, hk1, hbl⟩ | ⟨h13, hSS⟩
        · obtain rfl : e = 0 := h0
          have hs7 := HS.out
          rw [hwe] at hs7
          have H7 := hid (hs7.sub (rs' := [.row A6 S2.E.length S2.E, .box W.heap.size (.cells #[.int .i64 o.kind, .int .i64 o.n, .string o.key, .slice B o.data.length cb] 41)]) (fun r hr => by simp at hr ⊢; rcases hr with rfl | rfl <;> simp))
          have hwl := congrArg List.length hwe
          have HL2 := hid hwl
          clear hs7 hwe hwl
          go_wp2_with fail
          go_meet
          case rel => exact ⟨A6, c6, by rw [HL2.out], H7⟩
        · obtain rfl : e = 63 := h63
          have hSS : S2 = S := hSS
          subst hSS
          have hnb : ¬ blocksE (withE S2.E o) ≤ (sizeM S2.D : Int) := by omega
          have hb := HS.out.blocks (c := c6) (A := A6) (n := (withE S2.E o).length) (E := withE S2.E o) (by simp) (by have := HW.out.2; omega)
          have c0 := cell_of_row _ _ 0 _ _ _ (HS.out.box (b := W.heap.size) (o := .cells #[.int .i64 o.kind, .int .i64 o.n, .string o.key, .slice B o.data.length cb] 41) (by simp))
          simp only [hk1] at c0
          simp at c0
          have HK1 := hid hk1
          clear hbl hk1
          go_wp2_with fail
          refine hb.mono ?_
          rintro e8 w8 ⟨rfl, hs8, _⟩
          have hha := hs8.half
          have hct := hs8.count
          have H8 := hid (hs8.sub (rs' := [.row A3 S2.E.length S2.E, .box W.heap.size (.cells #[.int .i64 o.kind, .int .i64 o.n, .string o.key, .slice B o.data.length cb] 41)]) (fun r hr => by simp at hr ⊢; rcases hr with rfl | rfl <;> simp))
          clear hb c0 hs8
          go_wp2_with fail
          refine hha.mono ?_
          rintro e9 w' ⟨rfl, rfl⟩
          clear hha
          go_wp2_with fail
          refine hct.mono ?_
          rintro e9 w' ⟨rfl, rfl⟩
          clear hct
          go_wp2_with fail
          go_meet
          case rel => exact ⟨A3, c3, rfl, H8⟩
        · have hSS : S2 = S := hSS
          subst hSS
          have hct := HS.out.count
          have H8 := hid (HS.out.sub (rs' := [.row A3 S2.E.length S2.E, .box W.heap.size (.cells #[.int .i64 o.kind, .int .i64 o.n, .string o.key, .slice B o.data.length cb] 41)]) (fun r hr => by simp at hr ⊢; rcases hr with rfl | rfl <;> simp))
          rcases h13 with h1 | h3
          · obtain rfl : e = 1 := h1
            go_wp2_with fail
            refine hct.mono ?_
            rintro e9 w' ⟨rfl, rfl⟩
            clear hct
            go_wp2_with fail
            go_meet
            case rel => exact ⟨A3, c3, rfl, H8⟩
          · obtain rfl : e = 3 := h3
            go_wp2_with fail
            refine hct.mono ?_
            rintro e9 w' ⟨rfl, rfl⟩
            clear hct
            go_wp2_with fail
            go_meet
            case rel => exact ⟨A3, c3, rfl, H8⟩
      case rest =>
        obtain ⟨A4, c4, rfl, hs8⟩ := hcut
        clear HS HW
        obtain ⟨lg2, hg2⟩ := HN.out
        obtain ⟨q1, q2, q3⟩ := hg2.bound
        obtain ⟨X, hX⟩ : ∃ X, blocksE S2.E = X := ⟨_, rfl⟩
        obtain ⟨T, hT⟩ : ∃ T, S2.H.tail = T := ⟨_, rfl⟩
        obtain ⟨Z, hZ⟩ : ∃ Z, (sizeM S2.D : Int) = Z := ⟨_, rfl⟩
        rw [hX, hT] at q1
        rw [hT, hZ] at q2
        have n1 : ¬ Z < X := by omega
        have n2 : ¬ T < X := by omega
        have n3 : ¬ Z < T := by omega
        have hlen2 := hg2.len
        have HGG := hid (And.intro hg2 (show S2.E.length ≤ 4096 from hlen2))
        have HX := hid (And.intro hX (And.intro hT hZ))
        have hb := hs8.out.blocks (c := c4) (A := A4) (n := S2.E.length) (E := S2.E) (by simp) (by omega)
        rw [hX] at hb
        clear hg2 q1 q2 q3 hlen2 hX hT hZ
        go_wp2_with fail
        refine hb.mono ?_
        rintro e9 w9 ⟨rfl, hs9, _⟩
        have hha := hs9.half
        rw [HX.out.2.2] at hha
        have hli := hs9.live HGG.out.1.wf.sorted (by have := HGG.out.2; omega) (fun x hx => (HGG.out.1.wf.ent x hx).2.2)
        rw [HX.out.1] at hli
        clear hb hs8 hs9
        go_wp2_with fail
        refine hha.mono ?_
        rintro e10 w' ⟨rfl, rfl⟩
        clear hha
        go_wp2_with fail
        refine hli.mono ?_
        rintro e10 w10 ⟨rfl, hs10, _⟩
        have hb := hs10.blocks (c := c4) (A := A4) (n := S2.E.length) (E := S2.E) (by simp) (by have := HGG.out.2; omega)
        rw [HX.out.1] at hb
        clear hli hs10
        go_wp2_with fail
        refine hb.mono ?_
        rintro e11 w11 ⟨rfl, hs11, _⟩
        have hli := hs11.live HGG.out.1.wf.sorted (by have := HGG.out.2; omega) (fun x hx => (HGG.out.1.wf.ent x hx).2.2)
        rw [HX.out.1] at hli
        clear hb hs11
        go_wp2_with fail
        refine hli.mono ?_
        rintro e12 w12 ⟨rfl, hs12, _⟩
        have hus := hs12.used
        rw [HX.out.2.1] at hus
        have hha := hs12.half
        rw [HX.out.2.2] at hha
        have c0 := cell_of_row _ _ 0 _ _ _ (hs12.box (b := W.heap.size) (o := .cells #[.int .i64 o.kind, .int .i64 o.n, .string o.key, .slice B o.data.length cb] 41) (by simp))
        simp at c0
        have HS12 := hid hs12
        clear hli hs12
        go_wp2_with fail
        refine hus.mono ?_
        rintro e13 w' ⟨rfl, rfl⟩
        go_wp2_with fail
        refine hus.mono ?_
        rintro e13 w' ⟨rfl, rfl⟩
        clear hus
        go_wp2_with fail
        refine hha.mono ?_
        rintro e13 w' ⟨rfl, rfl⟩
        clear hha
        go_upto_if 106 with (fail)
        clear n1 n2 n3 c0
        go_cut [6] (fun sv wc => ∃ p2, sv = .pointer (some ⟨p2, 0, none⟩) ∧ Hid (SysB w wc pd p2 S2 [.row A4 S2.E.length S2.E, .box W.heap.size (.cells #[.int .i64 o.kind, .int .i64 o.n, .string o.key, .slice B o.data.length cb] 41)]))
        case first =>
          by_cases hk3 : o.kind = 3
          · simp only [hk3]
            have hop := HS12.out.open_ (S' := S2) rfl HGG.out.1
            clear hk3
            go_wp2_with fail
            refine hop.mono ?_
            rintro e14 w14 ⟨p2, rfl, hsA, hsB, _⟩
            have hu1 := hsB.used
            have hu2 := hsA.used
            have HF := hid hsB
            clear hop hsA hsB
            go_wp2_with fail
            refine hu1.mono ?_
            rintro e15 w' ⟨rfl, rfl⟩
            go_wp2_with fail
            refine hu2.mono ?_
            rintro e15 w' ⟨rfl, rfl⟩
            clear hu1 hu2
            go_wp2_with fail
            go_meet
            case rel => exact ⟨p2, rfl, HF⟩
          · have n3 : (o.kind == 3) = false := by simpa using hk3
            clear hk3
            go_wp2_with fail
            go_meet
            case rel => exact ⟨ps, rfl, HS12⟩
        case rest =>
          obtain ⟨p2, rfl, hs15⟩ := hcut
          clear HS12
          have hsa := hs15.out.state HGG.out.1.wf (by have := HGG.out.2; omega)
          clear hs15
          go_wp2_with fail
          refine hsa.mono ?_
          rintro e16 w16 ⟨A8, c8, rfl, hs16, _⟩
          have hsm := hs16.same (A := A8) (B := A4) (cA := c8) (cB := c4) (E := S2.E) (F := S2.E) (n := S2.E.length) (m := S2.E.length) (by simp) (by simp) (by have := HGG.out.2; omega) (by have := HGG.out.2; omega) HGG.out.1.bytes HGG.out.1.bytes
          rw [decide_eq_true rfl] at hsm
          clear hsa hs16
          go_wp2_with fail
          refine hsm.mono ?_
          rintro e17 w17 ⟨rfl, hs17, _⟩
          have HZ := hid (show GoesB w w17 pd p2 S2 A4 (k + 1) from ⟨hs17.sub (fun r hr => by rw [List.mem_singleton.1 hr]; simp), HN.out, HM.out.1, HM.out.2.1, HM.out.2.2⟩)
          clear hsm hs17
          go_wp2
          go_roundw
          case rel => exact ⟨k + 1, p2, S2, A4, c4, by omega, by go_num, rfl, rfl, HZ⟩
          case measure => simp [intOf]; omega
    · obtain rfl : k = n := by omega
      have HZ := hid hgo.out.1.bel
      clear hgo
      go_wp2
      go_ret
      exact ⟨rfl, HZ.out⟩
end Go.Proofs.YticogmpafehomaaGreatDoor

set_option linter.unusedVariables false
set_option linter.unusedSimpArgs false
namespace Go.Proofs.YticogmpafehomaaGreatDoor
open Go.RowKit Go.Proofs.YticogmpafehomaaGreatDoorW.PrintWords

theorem storeAsSaid_row {W : World} {x : Int} (hx : (Lit.int .i64 x).wf = true) {A : Option Addr} {c : Nat} {l : List Op24} (hL : KOp24.C W A l.length l) (hl : (l.map (fun _ => 1)).sum + 1 ≤ 1048576) (hG : (∀ o ∈ l, o.ok) ∧ l.length * 56 ≤ 140737488351232) :
    Calls Tryz.prog 6 #[.int .i64 x, .slice A l.length c] W fun e W' => e = .returned (.bool true) ∧ Below W.heap.size W W' :=
  storeAsSaid_any x (bounds_i64 hx) hL (ones_len24 hl) hG.1
end Go.Proofs.YticogmpafehomaaGreatDoor

set_option linter.unusedVariables false
set_option linter.unusedSimpArgs false
namespace Go.Proofs.YticogmpafehomaaGreatDoor
open Go.ChangeShapes Go.WideShapes Go.ChangeAt Go.RowKit Go.Proofs.YticogmpafehomaaGreatDoorW.PrintWords
open Go.ChangeMaps (open_string shut_string)
set_option linter.unusedVariables false
set_option maxRecDepth 100000 in
theorem storeAsSaid_contract (H : Type) (enc : TypeId × Value → H) (W : World) (base : Nat) (args : Array Value) (ds gs : List (DataW H)) (before : List MemPlace)
    (hval0 : ∀ (j : Nat) t v, Tryz.f6.params[j]? = some t → args[j]? = some v → Value.okWide Tryz.prog W .any base t v)
    (hW : DataW.Whole enc Tryz.prog Tryz.f6.params.toList Rows.storeAsSaidSpec.vars false W args.toList ds gs before)
    (hsz0 : (DataW.weightsEach Tryz.prog (Tryz.f6.params.toList ++ Rows.storeAsSaidSpec.plain.varTypes Tryz.prog) (ds ++ gs)).all (· ≤ reachBytes) = true) (hk0 : Rows.uptoSmall H (ds ++ gs) = true) (N : NOK W) :
    Calls Tryz.prog 6 args W fun e W' => ∃ v, e = .returned v ∧ Rows.storeAsSaidSpec.post enc Tryz.prog Tryz.f6 false true false false W args v W' := by
  have hsz := hsz0
  have hk : Rows.uptoBulkAll (ds ++ gs) ≤ 1048576 := by simpa [Rows.uptoSmall] using hk0
  have hval := hval0
  have hW' := hW
  obtain ⟨p, q, hA0, hV, rfl, hfz, hnd⟩ := hW
  have hA : DataW.TrodAll enc Tryz.prog W 0 (fun _ => true) true Tryz.f6.params.toList args.toList ds p := hA0
  rw [Tryz.params6] at hA hval hsz
  obtain ⟨v0, vs0, d0, ds0, p0, q0, hargs, rfl, rfl, h0, r0⟩ := trodAll_cons hA
  obtain ⟨v1, vs1, d1, ds1, p1, q1, rfl, rfl, rfl, h1, r1⟩ := trodAll_cons r0
  obtain ⟨rfl, rfl, rfl⟩ := trodAll_nil r1
  obtain rfl : args = #[v0, v1] := by cases args; simp_all
  obtain ⟨rfl, rfl⟩ := trodVars_none hV
  obtain ⟨n0, rfl, rfl, rfl, g0⟩ := open_int Tryz.underlying3 (hval 0 3 v0 rfl rfl) h0
  have lt1 : ∀ x ∈ p1, x.block < W.heap.size := by obtain ⟨m, hm⟩ := h1; exact DataW.trod_lt m _ _ _ hm
  obtain ⟨A1, len1, c1, rfl⟩ := okWide_slice Tryz.underlying39 (hval 1 39 v1 rfl rfl)
  obtain ⟨l1, rfl, hl1, k1, g1, b1⟩ := opensM_slice_arg opensM_ops24 hsz hk (j := 1) (t := 39) rfl rfl h1
  clear hA0 hval0 hsz0 hsz hk hk0
  refine (storeAsSaid_row g0 k1 b1 g1).mono fun e W' ⟨he, bel⟩ => ?_
  subst he
  exact ⟨_, rfl, _, _, _, [], _, [], hW', trodAll_mk1 (shut_bool Tryz.underlying4 _), (trodAll_cons_mk (shut_int Tryz.underlying3 g0) (trodAll_cons_mk (Below.trod names_laidOut (by kernel_rfl) (of_decide_eq_true (by kernel_rfl)) h1 bel lt1) trodAll_mk0)), rfl, bel.frame _, fun h => by cases h⟩
theorem storeAsSaid_reads (os : Os) {H : Type} (enc : TypeId × Value → H) : ∃ places, DataW.whole enc Tryz.prog ((laidWorld os).forCall (fun _ _ => 0) ⟨#[], #[.int .i64 0, .slice none 0 0], []⟩).memory Tryz.f6.params.toList Rows.storeAsSaidSpec.vars false (#[.int .i64 0, .slice none 0 0] : Array Value).toList 8 = some ([.lit (.int .i64 0), .nil], [], places) :=
  ⟨[], by kernel_rfl⟩
set_option maxRecDepth 100000 in
theorem storeAsSaid_lifted (os : Os) (started : os.Started) (H : Type) (enc : TypeId × Value → H) (F : Stop.Interp) :
    ReturnsInHanded {} Tryz.checked os 6 .any ((Rows.OpenSpec.upto Rows.storeAsSaidSpec).preRow enc Tryz.prog Tryz.f6 Rows.storeAsSaidUptoRow.domain false Rows.storeAsSaidUptoRow.laid) (((Rows.OpenSpec.upto Rows.storeAsSaidSpec).at F).post enc Tryz.prog Tryz.f6 false true false false) := by
  obtain ⟨places, hx⟩ := storeAsSaid_reads os enc
  refine returnsInHanded_of_row (C := Tryz.checked) (s := Rows.OpenSpec.upto Rows.storeAsSaidSpec) names_own started (by kernel_rfl) Tryz.func6
    (witness_row_atRef (enc := enc) (C := Tryz.checked) false (laidWorld os) #[.int .i64 0, .slice none 0 0] rfl (by kernel_rfl) (by kernel_rfl) (by kernel_rfl)
      (OpenSpec.preRow_of_cond 8 hx (by kernel_rfl) (fun k hk => by cases hk; kernel_rfl) (by kernel_rfl) (laid_met os _))) ?_
  intro W base args ds gs before hval hW _ hcond hsz hL hsh _
  exact storeAsSaid_contract H enc W base args ds gs before hval hW hsz (hcond _ rfl) (NOK_of hL hsh)
theorem storeAsSaid_said : Rows.StoreAsSaidUptoSaid :=
  OpenClaim.holds_of_cond 6 Tryz.f6 rfl rfl rfl rfl rfl rfl rfl ⟨rfl, rfl, rfl, rfl, rfl⟩ rfl rfl rfl rfl rfl (by kernel_rfl) Tryz.func6 (by kernel_rfl)
    (of_decide_eq_true (by kernel_rfl)) (by unfold Func.isWrapper; first | (rw [if_pos (by decide +kernel)]; kernel_rfl) | (rw [if_neg (by decide +kernel)]; exact ⟨rfl, rfl⟩))
    (fun os started H enc _ F => by rw [OpenClaim.pre_eq_preRow]; exact storeAsSaid_lifted os started H enc F)
theorem storeAsSaid_plain (f : FuncId) (fn : Func) (hf : Tryz.pinned.checked.prog.funcNamed "foundry/foundrylaw24.StoreAsSaid" = some f) (hfn : Tryz.pinned.checked.prog.funcs[f]? = some fn) :
    true = Tryz.pinned.checked.prog.looks [] ∧ ∀ (j : Nat) t, fn.params[j]? = some t → Tryz.pinned.checked.prog.wantsStandIn t = false := by
  obtain rfl : f = 6 := Option.some.inj ((show Tryz.prog.funcNamed "foundry/foundrylaw24.StoreAsSaid" = some 6 by kernel_rfl).symm.trans hf) |>.symm
  obtain rfl : fn = Tryz.f6 := (Option.some.inj (Tryz.func6.symm.trans hfn)).symm
  refine ⟨by kernel_rfl, fun j t ht => ?_⟩
  rw [Tryz.params6] at ht
  have hm := Array.mem_of_getElem? ht
  have hall : (#[3, 39] : Array Nat).all (fun t => !(Tryz.prog.wantsStandIn t)) = true := by kernel_rfl
  have := Array.all_eq_true'.1 hall t hm
  have h2 : Tryz.prog.wantsStandIn t = false := by simpa using this
  exact h2
/-- The card, for the claim. -/
theorem storeAsSaid_holds : Rows.StoreAsSaidUptoCardSaid :=
  Claim7.holds_tied_plain_at .later [] _ _ _ _ storeAsSaid_said (fun _ h => by cases h) (by kernel_rfl) (fun _ h => by cases h) storeAsSaidUpto_row_tie rfl ⟨rfl, rfl⟩ (by kernel_rfl) rfl storeAsSaid_plain (by kernel_rfl)
#print axioms storeAsSaid_holds
end Go.Proofs.YticogmpafehomaaGreatDoor
