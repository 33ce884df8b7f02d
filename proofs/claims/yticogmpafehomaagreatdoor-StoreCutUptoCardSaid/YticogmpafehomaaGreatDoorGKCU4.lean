/- Texts of one seat, laid together. -/
import Derived.WalkKit
import Derived.LaidEql
import Derived.Stop.Asserts
import Derived.RowKitTokens
import Derived.Sort.Walk0
import Derived.Test.YticogmpafehomaaGreatDoorGKCU3
import Derived.Test.YticogmpafehomaaGreatDoorGKCU2
import Derived.Test.YticogmpafehomaaGreatDoorGKCU1

set_option linter.unusedVariables false
set_option linter.unusedSimpArgs false
namespace Go.Proofs.YticogmpafehomaaGreatDoor
open Go.RowKit Go.Maps Go.Proofs.YticogmpafehomaaGreatDoorW.PrintWords Go.Proofs.YticogmpafehomaaGreatDoorW.PrintMore

theorem SM.wf.few {S : SM} (h : S.wf) : S.E.length ≤ 4096 := by
  have h1 := h.fine
  have h2 := h.len
  have := h1.nt; have := h1.ts; have := h1.s
  omega

set_option maxRecDepth 100000 in
set_option maxHeartbeats 8000000 in
theorem change_put {w : World} {okd ok okr okb okv : Nat → Prop} {p pd hb mb ob kc : Nat} {dv : Value} {S : SM} {A Av : Option Addr} {c cv : Nat} {k : ByteArray} {v : List Int} (hd : PDisk w okd pd S.D) (h : PSb w ok okr p pd hb mb dv S) (hwf : S.wf) (hm : Room S.D)
    (hod : ∀ j, okd j → j < w.heap.size) (hos : ∀ j, ok j → j < w.heap.size) (hap : apart okd ok) (hF : RB w okb A (recB k v)) (hob : ∀ j, okb j → j < w.heap.size ∧ ¬ okd j ∧ ¬ ok j) (hc : ((recB k v)).length ≤ c) (hk : keyedB k) (hv : Bytes v) (hvl : v.length ≤ 131072)
    (ho : w.cell? ⟨ob, 0, none⟩ = some (.slice Av v.length cv)) (hcv : v.length ≤ cv) (hV : RB w okv Av v) (hvn : ∀ j, okv j → j < w.heap.size ∧ ¬ okd j ∧ ¬ ok j) (hon : ¬ okd ob ∧ ¬ ok ob)
    (hkc : w.cell? ⟨kc, 0, none⟩ = some (.string k)) (hkn : ¬ okd kc ∧ ¬ ok kc) :
    Calls Tryz.prog 59 #[.pointer (some ⟨p, 0, none⟩), .int .i64 1, .slice A ((recB k v)).length c, .func (.func 61) #[] #[.pointer (some ⟨ob, 0, none⟩), .pointer (some ⟨kc, 0, none⟩)]] w fun e w' => e = .returned (.int .i64 (changeF S 1 (recB k v) (putE k v S.E)).1) ∧
      SysOut w w' okd (fun j => ok j ∨ okv j) p pd (changeF S 1 (recB k v) (putE k v S.E)).2 ∧ Chg (fun j => okd j ∨ ok j) w w' := by
  obtain ⟨R, hR⟩ : ∃ R, changeF S 1 (recB k v) (putE k v S.E) = R := ⟨_, rfl⟩
  rw [hR]
  have HR := hid hR
  clear hR
  have hplt := h.blk.lt
  have hblk := h.blk
  have hfn := hwf.fine
  have hfew : Few S.E := fun _ => by have := hwf.few; omega
  have hbl : Unit → ((recB k v)).length ≤ 140737488355328 := fun _ => by rw [recB_len]; have := hk.2; omega
  have hbb : Bytes (recB k v) := recB_bytes hv
  have hft := fits_any h.log ⟨Int.le_trans hfn.n0 hfn.nt, hfn.ts, hfn.s⟩ (((recB k v)).length : Int) (by have := hbl (); omega)
  obtain ⟨b, hbq⟩ : ∃ b, fitsB S.H ((recB k v)).length = b := ⟨_, rfl⟩
  rw [hbq] at hft
  have hklt := World.block_lt_of_cell? w _ hkc
  have HK := hid (And.intro hd (And.intro h (And.intro hod (And.intro hos (And.intro hap (And.intro hF (And.intro hob (And.intro hc (And.intro hkc (And.intro hkn (And.intro hbq (And.intro hwf (And.intro ho (And.intro hcv (And.intro hV (And.intro hvn hon))))))))))))))))
  have c4 := hblk.c4
  clear hd h hod hos hap hF hob hc hkc hkn hbq hwf ho hcv hV hvn hon
  go_enter Tryz.func59, Tryz.ntmps59
  go_wp2_with fail
  refine hft.mono ?_
  rintro e w1 ⟨rfl, hB1⟩
  obtain ⟨hd, h, hod, hos, hap, hF, hob, hc, hkc, hkn, hbq, hwf, ho, hcv, hV, hvn, hon⟩ := HK.out
  have hd1 := hd.step (w1 := w1) (fun j _ hj => hB1.block j hj)
  have h1 := h.step (w1 := w1) (fun j _ hj => hB1.block j hj)
  have hF1 := RB_below hF hB1
  have hs1 := hB1.size
  have hne := h.ne
  cases b with
  | true =>
    have hC0 : hputC S.H 1 ((recB k v)).length = 0 := by
      unfold hputC
      have hf2 : 0 < need (((recB k v)).length : Int) ∧ need (((recB k v)).length : Int) ≤ S.H.size - S.H.tail := by unfold fitsB at hbq; exact of_decide_eq_true hbq
      rw [if_neg (by omega), if_neg (by intro hh; unfold need at hf2; rw [if_pos (by omega)] at hf2; omega), hbq]
      rfl
    have hput := hput_any hd1.bound h1.log hfn hF1 (fun j hj hj2 => (hob j hj).2.1 hj2.1) (fun e => hap hb e.1 h.okh) hc hbb (hbl ()) (putsF_room (H := S.H) (l := []) (by simp) (hm ())) 1
    have hblk1 := h1.blk
    have c4' := hblk1.c4
    generalize hq : hputF S.D S.H 1 (recB k v) = q at hput
    have HQ := hid (And.intro hq hbq)
    obtain ⟨E, D', H'⟩ := q
    dsimp only at hput
    clear hd h hod hos hap hF hob hc hkc hkn hbq hwf hd1 h1 hF1 hblk1 hq hft c4 ho hcv hV hvn hon
    have HB1 := hid hB1
    clear hB1
    go_wp2_with fail
    refine hput.mono ?_
    rintro e w2 ⟨rfl, hP2, hh2, hC2⟩
    clear hput
    obtain ⟨hd, h, hod, hos, hap, hF, hob, hc, hkc, hkn, hbq, hwf, ho, hcv, hV, hvn, hon⟩ := HK.out
    have hC3 : Chg (fun j => okd j ∨ j = hb) w w2 := (Chg.of_below HB1.out (fun j => okd j ∨ j = hb)).then_ hC2 (fun j hj => hj.elim (fun hj => .inl (.inl hj.1)) (fun hj => .inl (.inr hj)))
    have hstay : ∀ j, j < w.heap.size → ¬ okd j → j ≠ hb → w2.heap[j]? = w.heap[j]? := fun j h1 h2 h3 => hC3.block j h1 (fun e => e.elim h2 h3)
    have hs2 := hC3.size
    have h2 : PSb w2 ok okr p pd hb mb dv { S with D := D', H := H' } :=
      ⟨h.okp, h.okh, h.okm, fun j hj => by have := h.rows j hj; exact ⟨this.1, Nat.lt_of_lt_of_le this.2.1 hs2, this.2.2⟩, h.blk.step (hstay p hplt (fun e => hap p e h.okp) hne.1), hh2,
        h.ent.step (hstay mb h.ent.lt (fun e => hap mb e h.okm) hne.2.2.symm) (fun j hj hlt => hstay j hlt (fun e => hap j e (h.rows j hj).1) (h.rows j hj).2.2.2.1), by
          have hdd := h.dead
          unfold DeadV at hdd ⊢
          split at hdd
          · rename_i hq1
            rw [if_pos hq1]
            obtain ⟨db, x, q1, q2⟩ := hdd
            refine ⟨db, x, q1, (hstay db (blk_lt q2) (fun e => hap db e (h.okd db q1)) (fun e => ?_)).trans q2⟩
            have hl := h.log
            unfold HBlk at hl
            rw [← e, q2] at hl
            cases hl
          · rename_i hq1
            rw [if_neg hq1]
            exact hdd, h.okd⟩
    have hP2' : PDisk w2 (fun j => orNew okd w j ∧ j < w2.heap.size) pd D' := (hP2.mono (ok' := orNew okd w) (fun j hj => hj.elim (fun hj => .inl hj.1) (fun hj => .inr (Nat.le_trans hs1 hj)))).bound
    by_cases hE : E = 0
    · subst hE
      have hent := h2.ent
      have hcl := put_clos (w := w2) (okv := okv) (A := Av) (c := cv) hent hwf.sorted (hfew ()) (by have := hk.2; omega) (fun j hj => (h.rows j hj).2.2.2.2) (fun j hj e => (hvn j hj).2.2 (e ▸ h.okm)) (Kd.F_step hV (fun j hj hlt => hstay j hlt (hvn j hj).2.1 (fun e => (hvn j hj).2.2 (e ▸ h.okh)))) hcv (hC3.cell_ ho (fun e => e.elim hon.1 (fun e => hon.2 ((show ob = hb from e) ▸ h.okh)))) (hC3.cell_ hkc (fun e => e.elim hkn.1 (fun e => hkn.2 ((show kc = hb from e) ▸ h.okh))))
      have HW := hid (And.intro hP2' (And.intro h2 hC3))
      have c5 := h2.blk.c5
      clear hd h hod hos hap hF hob hc hkc hkn hbq hwf hP2 hh2 hC2 hC3 hstay h2 hP2' hent c4' ho hcv hV hvn hon
      go_wp2_with fail
      refine (met_ok _).mono ?_
      rintro e w3 ⟨rfl, rfl⟩
      go_wp2_with fail
      refine hcl.mono ?_
      rintro e w3 ⟨rfl, hE3, hg3⟩
      have HX := hid (And.intro hE3 hg3)
      clear hE3 hg3 hcl
      go_wp2
      go_ret
      obtain ⟨hE3, hg3⟩ := HX.out
      obtain ⟨hP2, h2, hC3⟩ := HW.out
      obtain ⟨hd, h, hod, hos, hap, hF, hob, hc, hkc, hkn, hbq, hwf, ho, hcv, hV, hvn, hon⟩ := HK.out
      have hR : R = (0, { S with D := D', H := H', E := (putE k v S.E) }) := by
        rw [← HR.out]
        unfold changeF
        rw [if_pos HQ.out.2, HQ.out.1]
        dsimp only
        rw [if_pos rfl]
      rw [hR]
      have hmlt := h2.ent.lt
      have hC4 : Chg (fun j => j = mb) w2 w3 := ⟨hg3.os, hg3.tape, hg3.output, hg3.size, fun i hi hn => hg3.block i hi (fun e => hn (by injection e))⟩
      have hst : ∀ j, j < w2.heap.size → j ≠ mb → w3.heap[j]? = w2.heap[j]? := fun j h1 h2 => hC4.block j h1 h2
      refine ⟨rfl, ⟨_, (fun j => ok j ∨ okv j), hP2.step (fun j hj hlt => hst j hlt (fun e => by subst e; exact hj.1.elim (fun e => hap _ e h.okm) (fun e => by have := h.ent.lt; omega))), ⟨fun j => okr j ∨ okv j, hb, mb, dv, ?_⟩, fun j h1 h2 => h1.1.elim (fun h1 => h2.elim (fun h2 => hap j h1 h2) (fun h2 => (hvn j h2).2.1 h1)) (fun h1 => h2.elim (fun h2 => by have := hos j h2; omega) (fun h2 => by have := (hvn j h2).1; omega)), fun j hj => hj.1, fun j hj => .inl hj⟩, (hC3.mono (S2 := fun j => okd j ∨ ok j) (fun j hj => hj.elim .inl (fun e => .inr (e ▸ h.okh)))).then_ hC4 (fun j hj => .inl (.inr (hj ▸ h.okm)))⟩
      refine ⟨.inl h.okp, .inl h.okh, .inl h.okm, fun j hj => hj.elim (fun hj => by have := h.rows j hj; exact ⟨.inl this.1, by have := hC4.size; omega, this.2.2⟩) (fun hj => ⟨.inr hj, by have := (hvn j hj).1; have := hC4.size; omega, fun e => (hvn j hj).2.2 (e ▸ h.okp), fun e => (hvn j hj).2.2 (e ▸ h.okh), fun e => (hvn j hj).2.2 (e ▸ h.okm)⟩), h2.blk.step (hst p (by omega) hne.2.1), h2.log.step (hst hb h2.log.lt hne.2.2), hE3, ?_, fun db e => .inl (h.okd db e)⟩
      have hdd := h2.dead
      unfold DeadV at hdd ⊢
      split at hdd
      · rename_i hq1
        rw [if_pos hq1]
        obtain ⟨db, x, q1, q2⟩ := hdd
        refine ⟨db, x, q1, (hst db (blk_lt q2) (fun e => ?_)).trans q2⟩
        obtain ⟨f, ⟨D, ⟨es, clock, h3, _⟩, _⟩, _⟩ := h2.ent
        rw [← e, q2] at h3
        cases h3
      · rename_i hq1
        rw [if_neg hq1]
        exact hdd
    · have hme := met_err h2 hE
      have hE2 : (E != 0) = true := by simpa using hE
      have HW := hid (And.intro hP2' (And.intro h2 hC3))
      clear hd h hod hos hap hF hob hc hkc hkn hbq hwf hP2 hh2 hC2 hC3 hstay h2 hP2' c4' ho hcv hV hvn hon
      go_wp2_with fail
      refine hme.mono ?_
      rintro e w3 ⟨rfl, h3, hC4⟩
      have HX := hid (And.intro h3 hC4)
      clear h3 hC4 hme
      go_wp2
      go_ret
      obtain ⟨h3, hC4⟩ := HX.out
      obtain ⟨hP2, h2, hC3⟩ := HW.out
      obtain ⟨hd, h, hod, hos, hap, hF, hob, hc, hkc, hkn, hbq, hwf, ho, hcv, hV, hvn, hon⟩ := HK.out
      have hR : R = (E, { S with D := D', H := H', dead := true }) := by
        rw [← HR.out]
        unfold changeF
        rw [if_pos HQ.out.2, HQ.out.1]
        dsimp only
        rw [if_neg hE]
      rw [hR]
      refine ⟨rfl, ⟨_, orNew ok w2, hP2.step (fun j hj hlt => hC4.block j hlt (fun e => by subst e; exact hj.1.elim (fun e => hap _ e h.okp) (fun e => by omega))), ⟨okr, hb, mb, _, h3⟩, fun j h1 h2 => h1.1.elim (fun h1 => h2.elim (fun h2 => hap j h1 h2) (fun h2 => by have := hod j h1; omega)) (fun h1' => h2.elim (fun h2 => by have := hos j h2; omega) (fun h2 => by have := h1.2; omega)), fun j hj => hj.1, fun j hj => hj.elim (fun hj => .inl (.inl hj)) (fun hj => .inr (by omega))⟩, (hC3.mono (S2 := fun j => okd j ∨ ok j) (fun j hj => hj.elim .inl (fun e => .inr (e ▸ h.okh)))).then_ hC4 (fun j hj => .inl (.inr (hj ▸ h.okp)))⟩
  | false =>
    have hcl := mclone_any h1.ent
    have hblk1 := h1.blk
    have c5 := hblk1.c5
    clear hd h hod hos hap hF hob hc hkc hkn hbq hwf hd1 h1 hF1 hblk1 hft c4 ho hcv hV hvn hon
    have HB1 := hid hB1
    clear hB1
    go_wp2_with fail
    refine hcl.mono ?_
    rintro e w2 ⟨rfl, hE2, hB2⟩
    clear hcl
    obtain ⟨hd, h, hod, hos, hap, hF, hob, hc, hkc, hkn, hbq, hwf, ho, hcv, hV, hvn, hon⟩ := HK.out
    have hB3 := below_step HB1.out hB2
    have hs2 := hB2.size
    have hm2 := hE2.lt
    have hcl := put_clos (w := w2) (okv := okv) (A := Av) (c := cv) hE2 hwf.sorted (hfew ()) (by have := hk.2; omega) (fun j hj => by have := (h.rows j hj).2.1; omega) (fun j hj => by have := (hvn j hj).1; omega) (RB_below hV hB3) hcv ((hB3.cell (p := ⟨ob, 0, none⟩) (World.block_lt_of_cell? w _ ho)).trans ho) ((hB3.cell (p := ⟨kc, 0, none⟩) hklt).trans hkc)
    have HX := hid (And.intro hB3 hB2)
    clear hd h hod hos hap hF hob hc hkc hkn hbq hwf hE2 hB2 hB3 c5 ho hcv hV hvn hon
    go_wp2_with fail
    refine hcl.mono ?_
    rintro e w3 ⟨rfl, hE3, hg3⟩
    clear hcl
    obtain ⟨hd, h, hod, hos, hap, hF, hob, hc, hkc, hkn, hbq, hwf, ho, hcv, hV, hvn, hon⟩ := HK.out
    obtain ⟨hB3, hB2⟩ := HX.out
    have hB4 : Below w.heap.size w w3 := hB3.grown hg3 hB3.size (fun j hj => by injection hj with hj; omega)
    have hs4 := hB4.size
    have hco := compact_any (w := w3) (okn := fun j => okr j ∨ okv j) (mn := w1.heap.size) (hd.step (fun j _ hj => hB4.block j hj)) (h.step (fun j _ hj => hB4.block j hj)) hwf hE3 (hwf.sorted.put k v) (fun x hx => (mem_putE hx).elim (fun e => by subst e; exact ⟨hk, hv, hvl⟩) (hwf.ent x)) (fun _ => by have := hwf.few; have := putE_len k v S.E; omega) (fun j hj => Nat.lt_of_lt_of_le (hod j hj) hs4) (fun j hj => hj.elim (fun hj => Nat.lt_of_lt_of_le (h.rows j hj).2.1 hs4) (fun hj => Nat.lt_of_lt_of_le (hvn j hj).1 hs4)) (fun j hj => Nat.lt_of_lt_of_le (hos j hj) hs4)
      (fun j h1 h2 => h2.elim (fun h2 => hap j h1 h2) (fun h2 => h2.elim (fun h2 => h2.elim (fun h2 => hap j h1 (h.rows j h2).1) (fun h2 => (hvn j h2).2.1 h1)) (fun h2 => by have := hod j h1; omega))) (fun j hj => hj.elim (fun hj => ⟨(h.rows j hj).2.2.1, by have := (h.rows j hj).2.1; omega⟩) (fun hj => ⟨fun e => (hvn j hj).2.2 (e ▸ h.okp), by have := (hvn j hj).1; omega⟩)) (by omega) hm
    clear hd h hod hos hap hF hob hc hkc hkn hbq hwf hE3 hg3 hB2 hB3 ho hcv hV hvn hon
    have HY := hid hB4
    clear hB4
    go_wp2_with fail
    refine hco.mono ?_
    rintro e w4 ⟨rfl, hS4, hC4⟩
    have HZ := hid (And.intro hS4 hC4)
    clear hS4 hC4 hco
    go_wp2
    go_ret
    obtain ⟨hS4, hC4⟩ := HZ.out
    obtain ⟨hd, h, hod, hos, hap, hF, hob, hc, hkc, hkn, hbq, hwf, ho, hcv, hV, hvn, hon⟩ := HK.out
    have hR : R = compactF S (putE k v S.E) := by
      rw [← HR.out]
      unfold changeF
      rw [if_neg (by rw [hbq]; simp)]
    rw [hR]
    obtain ⟨okd', okS', k1, k2, k3, k4, k5⟩ := hS4
    have hC5 := (Chg.of_below HY.out (fun j => okd j ∨ j = p)).then_ hC4 (fun j hj => .inl hj)
    exact ⟨rfl, ⟨okd', okS', k1, k2, k3, fun j hj => (k4 j hj).elim .inl (fun e => .inr (Nat.le_trans hs4 e)), fun j hj => (k5 j hj).elim (fun hj => hj.elim (fun hj => .inl (.inl hj)) (fun hj => hj.elim (fun hj => hj.elim (fun hj => .inl (.inl (h.rows j hj).1)) (fun hj => .inl (.inr hj))) (fun e => .inr (by have := HB1.out.size; omega)))) (fun e => .inr (Nat.le_trans hs4 e))⟩, hC5.mono (fun j hj => hj.elim .inl (fun e => .inr (e ▸ h.okp)))⟩

set_option maxRecDepth 100000 in
set_option maxHeartbeats 8000000 in
theorem change_del {w : World} {okd ok okr okb : Nat → Prop} {p pd hb mb kc : Nat} {dv : Value} {S : SM} {A : Option Addr} {c : Nat} {k : ByteArray} (hd : PDisk w okd pd S.D) (h : PSb w ok okr p pd hb mb dv S) (hwf : S.wf) (hm : Room S.D)
    (hod : ∀ j, okd j → j < w.heap.size) (hos : ∀ j, ok j → j < w.heap.size) (hap : apart okd ok) (hF : RB w okb A (rawB (bytesOf k))) (hob : ∀ j, okb j → j < w.heap.size ∧ ¬ okd j ∧ ¬ ok j) (hc : ((rawB (bytesOf k))).length ≤ c) (hk : keyedB k)
    (hkc : w.cell? ⟨kc, 0, none⟩ = some (.string k)) (hkn : ¬ okd kc ∧ ¬ ok kc) :
    Calls Tryz.prog 59 #[.pointer (some ⟨p, 0, none⟩), .int .i64 2, .slice A ((rawB (bytesOf k))).length c, .func (.func 64) #[] #[.pointer (some ⟨kc, 0, none⟩)]] w fun e w' => e = .returned (.int .i64 (changeF S 2 (rawB (bytesOf k)) (delE k S.E)).1) ∧
      SysOut w w' okd ok p pd (changeF S 2 (rawB (bytesOf k)) (delE k S.E)).2 ∧ Chg (fun j => okd j ∨ ok j) w w' := by
  obtain ⟨R, hR⟩ : ∃ R, changeF S 2 (rawB (bytesOf k)) (delE k S.E) = R := ⟨_, rfl⟩
  rw [hR]
  have HR := hid hR
  clear hR
  have hplt := h.blk.lt
  have hblk := h.blk
  have hfn := hwf.fine
  have hfew : Few S.E := fun _ => by have := hwf.few; omega
  have hbl : Unit → ((rawB (bytesOf k))).length ≤ 140737488355328 := fun _ => by rw [rawB_length, bytesOf_length]; have := hk.2; omega
  have hbb : Bytes (rawB (bytesOf k)) := rawB_bytes (bytesOf_bytes k)
  have hft := fits_any h.log ⟨Int.le_trans hfn.n0 hfn.nt, hfn.ts, hfn.s⟩ (((rawB (bytesOf k))).length : Int) (by have := hbl (); omega)
  obtain ⟨b, hbq⟩ : ∃ b, fitsB S.H ((rawB (bytesOf k))).length = b := ⟨_, rfl⟩
  rw [hbq] at hft
  have hklt := World.block_lt_of_cell? w _ hkc
  have HK := hid (And.intro hd (And.intro h (And.intro hod (And.intro hos (And.intro hap (And.intro hF (And.intro hob (And.intro hc (And.intro hkc (And.intro hkn (And.intro hbq (And.intro hwf trivial))))))))))))
  have c4 := hblk.c4
  clear hd h hod hos hap hF hob hc hkc hkn hbq hwf
  go_enter Tryz.func59, Tryz.ntmps59
  go_wp2_with fail
  refine hft.mono ?_
  rintro e w1 ⟨rfl, hB1⟩
  obtain ⟨hd, h, hod, hos, hap, hF, hob, hc, hkc, hkn, hbq, hwf, _⟩ := HK.out
  have hd1 := hd.step (w1 := w1) (fun j _ hj => hB1.block j hj)
  have h1 := h.step (w1 := w1) (fun j _ hj => hB1.block j hj)
  have hF1 := RB_below hF hB1
  have hs1 := hB1.size
  have hne := h.ne
  cases b with
  | true =>
    have hC0 : hputC S.H 2 ((rawB (bytesOf k))).length = 0 := by
      unfold hputC
      have hf2 : 0 < need (((rawB (bytesOf k))).length : Int) ∧ need (((rawB (bytesOf k))).length : Int) ≤ S.H.size - S.H.tail := by unfold fitsB at hbq; exact of_decide_eq_true hbq
      rw [if_neg (by omega), if_neg (by intro hh; unfold need at hf2; rw [if_pos (by omega)] at hf2; omega), hbq]
      rfl
    have hput := hput_any hd1.bound h1.log hfn hF1 (fun j hj hj2 => (hob j hj).2.1 hj2.1) (fun e => hap hb e.1 h.okh) hc hbb (hbl ()) (putsF_room (H := S.H) (l := []) (by simp) (hm ())) 2
    have hblk1 := h1.blk
    have c4' := hblk1.c4
    generalize hq : hputF S.D S.H 2 (rawB (bytesOf k)) = q at hput
    have HQ := hid (And.intro hq hbq)
    obtain ⟨E, D', H'⟩ := q
    dsimp only at hput
    clear hd h hod hos hap hF hob hc hkc hkn hbq hwf hd1 h1 hF1 hblk1 hq hft c4
    have HB1 := hid hB1
    clear hB1
    go_wp2_with fail
    refine hput.mono ?_
    rintro e w2 ⟨rfl, hP2, hh2, hC2⟩
    clear hput
    obtain ⟨hd, h, hod, hos, hap, hF, hob, hc, hkc, hkn, hbq, hwf, _⟩ := HK.out
    have hC3 : Chg (fun j => okd j ∨ j = hb) w w2 := (Chg.of_below HB1.out (fun j => okd j ∨ j = hb)).then_ hC2 (fun j hj => hj.elim (fun hj => .inl (.inl hj.1)) (fun hj => .inl (.inr hj)))
    have hstay : ∀ j, j < w.heap.size → ¬ okd j → j ≠ hb → w2.heap[j]? = w.heap[j]? := fun j h1 h2 h3 => hC3.block j h1 (fun e => e.elim h2 h3)
    have hs2 := hC3.size
    have h2 : PSb w2 ok okr p pd hb mb dv { S with D := D', H := H' } :=
      ⟨h.okp, h.okh, h.okm, fun j hj => by have := h.rows j hj; exact ⟨this.1, Nat.lt_of_lt_of_le this.2.1 hs2, this.2.2⟩, h.blk.step (hstay p hplt (fun e => hap p e h.okp) hne.1), hh2,
        h.ent.step (hstay mb h.ent.lt (fun e => hap mb e h.okm) hne.2.2.symm) (fun j hj hlt => hstay j hlt (fun e => hap j e (h.rows j hj).1) (h.rows j hj).2.2.2.1), by
          have hdd := h.dead
          unfold DeadV at hdd ⊢
          split at hdd
          · rename_i hq1
            rw [if_pos hq1]
            obtain ⟨db, x, q1, q2⟩ := hdd
            refine ⟨db, x, q1, (hstay db (blk_lt q2) (fun e => hap db e (h.okd db q1)) (fun e => ?_)).trans q2⟩
            have hl := h.log
            unfold HBlk at hl
            rw [← e, q2] at hl
            cases hl
          · rename_i hq1
            rw [if_neg hq1]
            exact hdd, h.okd⟩
    have hP2' : PDisk w2 (fun j => orNew okd w j ∧ j < w2.heap.size) pd D' := (hP2.mono (ok' := orNew okd w) (fun j hj => hj.elim (fun hj => .inl hj.1) (fun hj => .inr (Nat.le_trans hs1 hj)))).bound
    by_cases hE : E = 0
    · subst hE
      have hent := h2.ent
      have hcl := del_clos (w := w2) hent hwf.sorted (by have := hk.2; omega) (fun j hj => (h.rows j hj).2.2.2.2) (hC3.cell_ hkc (fun e => e.elim hkn.1 (fun e => hkn.2 ((show kc = hb from e) ▸ h.okh))))
      have HW := hid (And.intro hP2' (And.intro h2 hC3))
      have c5 := h2.blk.c5
      clear hd h hod hos hap hF hob hc hkc hkn hbq hwf hP2 hh2 hC2 hC3 hstay h2 hP2' hent c4'
      go_wp2_with fail
      refine (met_ok _).mono ?_
      rintro e w3 ⟨rfl, rfl⟩
      go_wp2_with fail
      refine hcl.mono ?_
      rintro e w3 ⟨rfl, hE3, hg3⟩
      have HX := hid (And.intro hE3 hg3)
      clear hE3 hg3 hcl
      go_wp2
      go_ret
      obtain ⟨hE3, hg3⟩ := HX.out
      obtain ⟨hP2, h2, hC3⟩ := HW.out
      obtain ⟨hd, h, hod, hos, hap, hF, hob, hc, hkc, hkn, hbq, hwf, _⟩ := HK.out
      have hR : R = (0, { S with D := D', H := H', E := (delE k S.E) }) := by
        rw [← HR.out]
        unfold changeF
        rw [if_pos HQ.out.2, HQ.out.1]
        dsimp only
        rw [if_pos rfl]
      rw [hR]
      have hmlt := h2.ent.lt
      have hC4 : Chg (fun j => j = mb) w2 w3 := ⟨hg3.os, hg3.tape, hg3.output, hg3.size, fun i hi hn => hg3.block i hi (fun e => hn (by injection e))⟩
      have hst : ∀ j, j < w2.heap.size → j ≠ mb → w3.heap[j]? = w2.heap[j]? := fun j h1 h2 => hC4.block j h1 h2
      refine ⟨rfl, ⟨_, ok, hP2.step (fun j hj hlt => hst j hlt (fun e => by subst e; exact hj.1.elim (fun e => hap _ e h.okm) (fun e => by have := h.ent.lt; omega))), ⟨okr, hb, mb, dv, ?_⟩, fun j h1 h2 => h1.1.elim (fun h1 => hap j h1 h2) (fun h1 => by have := hos j h2; omega), fun j hj => hj.1, fun j hj => .inl hj⟩, (hC3.mono (S2 := fun j => okd j ∨ ok j) (fun j hj => hj.elim .inl (fun e => .inr (e ▸ h.okh)))).then_ hC4 (fun j hj => .inl (.inr (hj ▸ h.okm)))⟩
      refine ⟨ h.okp,  h.okh,  h.okm, fun j hj => by have := h.rows j hj; exact ⟨this.1, by have := hC4.size; omega, this.2.2⟩, h2.blk.step (hst p (by omega) hne.2.1), h2.log.step (hst hb h2.log.lt hne.2.2), hE3, ?_, fun db e =>  (h.okd db e)⟩
      have hdd := h2.dead
      unfold DeadV at hdd ⊢
      split at hdd
      · rename_i hq1
        rw [if_pos hq1]
        obtain ⟨db, x, q1, q2⟩ := hdd
        refine ⟨db, x, q1, (hst db (blk_lt q2) (fun e => ?_)).trans q2⟩
        obtain ⟨f, ⟨D, ⟨es, clock, h3, _⟩, _⟩, _⟩ := h2.ent
        rw [← e, q2] at h3
        cases h3
      · rename_i hq1
        rw [if_neg hq1]
        exact hdd
    · have hme := met_err h2 hE
      have hE2 : (E != 0) = true := by simpa using hE
      have HW := hid (And.intro hP2' (And.intro h2 hC3))
      clear hd h hod hos hap hF hob hc hkc hkn hbq hwf hP2 hh2 hC2 hC3 hstay h2 hP2' c4'
      go_wp2_with fail
      refine hme.mono ?_
      rintro e w3 ⟨rfl, h3, hC4⟩
      have HX := hid (And.intro h3 hC4)
      clear h3 hC4 hme
      go_wp2
      go_ret
      obtain ⟨h3, hC4⟩ := HX.out
      obtain ⟨hP2, h2, hC3⟩ := HW.out
      obtain ⟨hd, h, hod, hos, hap, hF, hob, hc, hkc, hkn, hbq, hwf, _⟩ := HK.out
      have hR : R = (E, { S with D := D', H := H', dead := true }) := by
        rw [← HR.out]
        unfold changeF
        rw [if_pos HQ.out.2, HQ.out.1]
        dsimp only
        rw [if_neg hE]
      rw [hR]
      refine ⟨rfl, ⟨_, orNew ok w2, hP2.step (fun j hj hlt => hC4.block j hlt (fun e => by subst e; exact hj.1.elim (fun e => hap _ e h.okp) (fun e => by omega))), ⟨okr, hb, mb, _, h3⟩, fun j h1 h2 => h1.1.elim (fun h1 => h2.elim (fun h2 => hap j h1 h2) (fun h2 => by have := hod j h1; omega)) (fun h1' => h2.elim (fun h2 => by have := hos j h2; omega) (fun h2 => by have := h1.2; omega)), fun j hj => hj.1, fun j hj => hj.elim (fun hj => .inl hj) (fun hj => .inr (by omega))⟩, (hC3.mono (S2 := fun j => okd j ∨ ok j) (fun j hj => hj.elim .inl (fun e => .inr (e ▸ h.okh)))).then_ hC4 (fun j hj => .inl (.inr (hj ▸ h.okp)))⟩
  | false =>
    have hcl := mclone_any h1.ent
    have hblk1 := h1.blk
    have c5 := hblk1.c5
    clear hd h hod hos hap hF hob hc hkc hkn hbq hwf hd1 h1 hF1 hblk1 hft c4
    have HB1 := hid hB1
    clear hB1
    go_wp2_with fail
    refine hcl.mono ?_
    rintro e w2 ⟨rfl, hE2, hB2⟩
    clear hcl
    obtain ⟨hd, h, hod, hos, hap, hF, hob, hc, hkc, hkn, hbq, hwf, _⟩ := HK.out
    have hB3 := below_step HB1.out hB2
    have hs2 := hB2.size
    have hm2 := hE2.lt
    have hcl := del_clos (w := w2) hE2 hwf.sorted (by have := hk.2; omega) (fun j hj => by have := (h.rows j hj).2.1; omega) ((hB3.cell (p := ⟨kc, 0, none⟩) hklt).trans hkc)
    have HX := hid (And.intro hB3 hB2)
    clear hd h hod hos hap hF hob hc hkc hkn hbq hwf hE2 hB2 hB3 c5
    go_wp2_with fail
    refine hcl.mono ?_
    rintro e w3 ⟨rfl, hE3, hg3⟩
    clear hcl
    obtain ⟨hd, h, hod, hos, hap, hF, hob, hc, hkc, hkn, hbq, hwf, _⟩ := HK.out
    obtain ⟨hB3, hB2⟩ := HX.out
    have hB4 : Below w.heap.size w w3 := hB3.grown hg3 hB3.size (fun j hj => by injection hj with hj; omega)
    have hs4 := hB4.size
    have hco := compact_any (w := w3) (okn := okr) (mn := w1.heap.size) (hd.step (fun j _ hj => hB4.block j hj)) (h.step (fun j _ hj => hB4.block j hj)) hwf hE3 (hwf.sorted.del k) (fun x hx => hwf.ent x (mem_delE hx)) (fun _ => by have := hwf.few; have := delE_len k S.E; omega) (fun j hj => Nat.lt_of_lt_of_le (hod j hj) hs4) (fun j hj => Nat.lt_of_lt_of_le (h.rows j hj).2.1 hs4) (fun j hj => Nat.lt_of_lt_of_le (hos j hj) hs4)
      (fun j h1 h2 => h2.elim (fun h2 => hap j h1 h2) (fun h2 => h2.elim (fun h2 => hap j h1 (h.rows j h2).1) (fun h2 => by have := hod j h1; omega))) (fun j hj => ⟨(h.rows j hj).2.2.1, by have := (h.rows j hj).2.1; omega⟩) (by omega) hm
    clear hd h hod hos hap hF hob hc hkc hkn hbq hwf hE3 hg3 hB2 hB3
    have HY := hid hB4
    clear hB4
    go_wp2_with fail
    refine hco.mono ?_
    rintro e w4 ⟨rfl, hS4, hC4⟩
    have HZ := hid (And.intro hS4 hC4)
    clear hS4 hC4 hco
    go_wp2
    go_ret
    obtain ⟨hS4, hC4⟩ := HZ.out
    obtain ⟨hd, h, hod, hos, hap, hF, hob, hc, hkc, hkn, hbq, hwf, _⟩ := HK.out
    have hR : R = compactF S (delE k S.E) := by
      rw [← HR.out]
      unfold changeF
      rw [if_neg (by rw [hbq]; simp)]
    rw [hR]
    obtain ⟨okd', okS', k1, k2, k3, k4, k5⟩ := hS4
    have hC5 := (Chg.of_below HY.out (fun j => okd j ∨ j = p)).then_ hC4 (fun j hj => .inl hj)
    exact ⟨rfl, ⟨okd', okS', k1, k2, k3, fun j hj => (k4 j hj).elim .inl (fun e => .inr (Nat.le_trans hs4 e)), fun j hj => (k5 j hj).elim (fun hj => hj.elim (fun hj => .inl hj) (fun hj => hj.elim (fun hj => .inl (h.rows j hj).1) (fun e => .inr (by have := HB1.out.size; omega)))) (fun e => .inr (Nat.le_trans hs4 e))⟩, hC5.mono (fun j hj => hj.elim .inl (fun e => .inr (e ▸ h.okp)))⟩
end Go.Proofs.YticogmpafehomaaGreatDoor

set_option linter.unusedVariables false
set_option linter.unusedSimpArgs false
namespace Go.Proofs.YticogmpafehomaaGreatDoor
open Go.RowKit Go.Proofs.YticogmpafehomaaGreatDoorW.PrintWords Go.Proofs.YticogmpafehomaaGreatDoorW.PrintMore

theorem puts_wf (b0 : Int) : ∀ (l : List (Int × List Int)) (D : DM), D.wf → (∀ x ∈ l, Bytes x.2) → (puts b0 D l).1.wf ∧ (puts b0 D l).1.n = D.n
  | [], D, h, _ => ⟨h, rfl⟩
  | x :: l, D, h, hb => by
    have h1 := writeD_wf h (hb x (List.mem_cons_self ..)) (b0 + x.1)
    have h2 := writeD_n h (b0 + x.1) x.2
    simp only [puts]
    split
    · obtain ⟨k1, k2⟩ := puts_wf b0 l (D.writeD (b0 + x.1) x.2) h1 (fun y hy => hb y (List.mem_cons_of_mem _ hy))
      exact ⟨k1, k2.trans h2⟩
    · exact ⟨h1, h2⟩
theorem order_bytes {r : SR} (hr : r.right) : ∀ x ∈ order r, Bytes x.2 := by
  intro x hx
  unfold order at hx
  rcases List.mem_append.1 hx with h | h
  · obtain ⟨i, _, rfl⟩ := List.mem_map.1 h
    exact bodyB_bytes hr _
  · rw [List.mem_singleton.1 h]
    exact headB_bytes hr
theorem sealW_wf {D : DM} (h : D.wf) {base : Int} {r : SR} (hg : 0 ≤ r.gen ∧ r.gen < 18446744073709551616) (hb : Bytes r.bytes) : (D.sealW base r).1.wf ∧ (D.sealW base r).1.n = D.n := by
  unfold DM.sealW
  by_cases h1 : sealE r = 0
  · rw [if_neg (by simp [h1])]
    split
    · exact ⟨h, rfl⟩
    · exact puts_wf _ _ _ h (order_bytes (right_of h1 hg hb))
  · rw [if_pos h1]
    exact ⟨h, rfl⟩
theorem hputF_wf {D : DM} {H : HM} (h : D.wf) (hf : H.fine) (kind : Int) {bs : List Int} (hb : Bytes bs) : (hputF D H kind bs).2.1.wf ∧ (hputF D H kind bs).2.1.n = D.n := by
  unfold hputF
  split
  · exact sealW_wf h hf.g hb
  · exact ⟨h, rfl⟩
theorem putsF_wf : ∀ (l : Ent) (D : DM) (H : HM), D.wf → H.fine → (∀ x ∈ l, Bytes x.2) → (putsF D H l).2.1.wf ∧ (putsF D H l).2.1.n = D.n
  | [], D, H, h, _, _ => ⟨h, rfl⟩
  | y :: l, D, H, h, hf, hb => by
    obtain ⟨h1, h2⟩ := hputF_wf h hf 1 (recB_bytes (k := y.1) (hb y (List.mem_cons_self ..)))
    have h3 := (hputF_fine (D := D) hf 1 (recB y.1 y.2)).1
    simp only [putsF]
    split
    · obtain ⟨k1, k2⟩ := putsF_wf l _ _ h1 h3 (fun x hx => hb x (List.mem_cons_of_mem _ hx))
      exact ⟨k1, k2.trans h2⟩
    · exact ⟨h1, h2⟩
theorem SM.wf.kill {S : SM} (h : S.wf) : ({ S with dead := true } : SM).wf := ⟨h.d, h.m, h.base, h.size, h.gen, h.n0, h.nt, h.ts, h.len, h.sorted, h.ent⟩
theorem SM.wf.disk {S : SM} (h : S.wf) {D : DM} (hD : D.wf) (hn : D.n = S.D.n) : ({ S with D := D } : SM).wf := ⟨hD, h.m, by rw [baseM_n hn]; exact h.base, by rw [sizeM_n hn]; exact h.size, h.gen, h.n0, h.nt, h.ts, h.len, h.sorted, h.ent⟩
/-- Entries that may be. -/
structure EntOK (F : Ent) : Prop where
  sorted : SortedE F
  ent : ∀ x ∈ F, keyedB x.1 ∧ Bytes x.2 ∧ x.2.length ≤ 131072
theorem next_ok {S : SM} (h : S.wf) (hm : ¬ (S.m.N = mostN ∨ stG S.D = mostN)) : S.next.ok := by
  have h1 := h.m
  have h2 := stG_bnd S.D
  obtain ⟨a1, a2, a3, a4, a5, a6⟩ := h1
  unfold SM.next MM.ok
  dsimp only
  omega
theorem compactF_wf {S : SM} (h : S.wf) {F : Ent} (hF : EntOK F) : (compactF S F).2.wf := by
  unfold compactF
  split
  · exact h
  · split
    · exact h.kill
    · split
      · exact h
      · rename_i hmx
        have hok := next_ok h hmx
        have hf0 := log0_fine h.d hok
        obtain ⟨w1, w2⟩ := putsF_wf F S.D (log0 S.D S.next) h.d hf0 (fun x hx => (hF.ent x hx).2.1)
        obtain ⟨f1, f2, f3, f4, f5, _⟩ := putsF_fine F S.D (log0 S.D S.next) hf0
        have v1 := flip_wf w1 hok
        have v2 := (flip_n w1 S.next).trans w2
        split
        · rename_i he
          split
          · refine ⟨v1, hok, ?_, ?_, ?_, f1.n0, f1.nt, f1.ts, ?_, hF.sorted, hF.ent⟩
            · dsimp only; rw [f2, baseM_n v2]; rfl
            · dsimp only; rw [f3, sizeM_n v2]; rfl
            · dsimp only; rw [f4]; rfl
            · dsimp only; rw [f5 he]; simp [log0]
          · exact (h.disk v1 v2).kill
        · exact (h.disk w1 w2).kill
theorem changeF_wf {S : SM} (h : S.wf) (kind : Int) {bs : List Int} (hb : Bytes bs) {F : Ent} (hF : EntOK F) (hl : F.length ≤ S.E.length + 1) : (changeF S kind bs F).2.wf := by
  have hf := h.fine
  unfold changeF
  split
  · obtain ⟨w1, w2⟩ := hputF_wf h.d hf kind hb
    obtain ⟨f1, f2, f3, f4, f5, f6, f7⟩ := hputF_fine (D := S.D) hf kind bs
    split
    · rename_i he
      refine ⟨w1, h.m, ?_, ?_, ?_, f1.n0, f1.nt, f1.ts, ?_, hF.sorted, hF.ent⟩
      · dsimp only; rw [f2, baseM_n w2]; exact h.base
      · dsimp only; rw [f3, sizeM_n w2]; exact h.size
      · dsimp only; rw [f4]; exact h.gen
      · dsimp only; rw [f5 he]; have := h.len; omega
    · rename_i he
      have e := f7 he
      refine ⟨w1, h.m, ?_, ?_, ?_, f1.n0, f1.nt, f1.ts, ?_, h.sorted, h.ent⟩
      · dsimp only; rw [f2, baseM_n w2]; exact h.base
      · dsimp only; rw [f3, sizeM_n w2]; exact h.size
      · dsimp only; rw [f4]; exact h.gen
      · dsimp only; rw [e]; exact h.len
  · exact compactF_wf h hF
theorem SM.wf.entOK {S : SM} (h : S.wf) : EntOK S.E := ⟨h.sorted, h.ent⟩
theorem EntOK.put {F : Ent} (h : EntOK F) {k : ByteArray} {v : List Int} (hk : keyedB k) (hv : Bytes v) (hl : v.length ≤ 131072) : EntOK (putE k v F) :=
  ⟨h.sorted.put k v, fun x hx => (mem_putE hx).elim (fun e => by subst e; exact ⟨hk, hv, hl⟩) (h.ent x)⟩
theorem EntOK.del {F : Ent} (h : EntOK F) (k : ByteArray) : EntOK (delE k F) := ⟨h.sorted.del k, fun x hx => h.ent x (mem_delE hx)⟩
theorem putF_wf {S : SM} (h : S.wf) (k : ByteArray) {v : List Int} (hv : Bytes v) : (putF S k v).2.wf := by
  unfold putF
  split
  · exact h
  · split
    · exact h
    · rename_i hk
      have hk := Classical.not_not.1 hk
      split
      · exact h
      · split
        · exact h
        · exact changeF_wf h 1 (recB_bytes hv) (h.entOK.put hk hv (by omega)) (putE_len k v S.E)
theorem formatF_wf {D D' : DM} {E : Int} {S : SM} (h : D.wf) (hf : formatF D = (E, D', some S)) : S.wf ∧ S.D = D' ∧ S.D.n = D.n ∧ E = 0 ∧ S.dead = false ∧ S.E = [] := by
  unfold formatF at hf
  split at hf
  · cases hf
  · split at hf
    · cases hf
    · rename_i hmx
      have hp := pick_N D
      have hg := stG_bnd D
      have hok : (⟨(pickM D).N + 1, stG D + 1, 0⟩ : MM).ok := by unfold MM.ok; dsimp only; omega
      have v1 := flip_wf h hok
      have v2 := flip_n h ⟨(pickM D).N + 1, stG D + 1, 0⟩
      split at hf
      · injection hf with e1 hf
        injection hf with e2 hf
        injection hf with hf
        subst e1 e2 hf
        have hf0 := log0_fine h hok
        refine ⟨⟨v1, hok, ?_, ?_, rfl, hf0.n0, hf0.nt, hf0.ts, by simp [log0], by unfold SortedE Sorted keysE; simp, fun x hx => by cases hx⟩, rfl, v2, rfl, rfl, rfl⟩
        · dsimp only; rw [baseM_n v2]; rfl
        · dsimp only; rw [sizeM_n v2]; rfl
      · cases hf
end Go.Proofs.YticogmpafehomaaGreatDoor

set_option linter.unusedVariables false
set_option linter.unusedSimpArgs false
namespace Go.Proofs.YticogmpafehomaaGreatDoor
open Go.RowKit Go.Maps Go.ChangeMaps Go.Proofs.YticogmpafehomaaGreatDoorW.PrintWords Go.Proofs.YticogmpafehomaaGreatDoorW.PrintMore

/-- The key that a record's bytes begin with; what is behind it. -/
def keyR (bs : List Int) : ByteArray := (⟨bs, 0⟩ : St).out (oText 40 bs) (strOfNums [])
def behR (bs : List Int) : St := (⟨bs, 0⟩ : St).took (oText 40 bs)
def datR (bs : List Int) : List Int := (behR bs).out (oRaw 131072 (behR bs).b) []
def endR (bs : List Int) : St := (behR bs).took (oRaw 131072 (behR bs).b)
theorem stepE_1 (E : Ent) (bs : List Int) : stepE E 1 bs = if (endR bs).done = 0 ∧ keyedB (keyR bs) then some (putE (keyR bs) (datR bs) E) else none := rfl
theorem stepE_2 (E : Ent) (bs : List Int) : stepE E 2 bs = if (behR bs).done = 0 ∧ keyedB (keyR bs) then some (delE (keyR bs) E) else none := rfl
theorem stepE_x (E : Ent) {kd : Int} (bs : List Int) (h1 : ¬ kd = 1) (h2 : ¬ kd = 2) : stepE E kd bs = none := by
  unfold stepE
  dsimp only
  rw [if_neg h1, if_neg h2]
theorem keyR_size (bs : List Int) : (keyR bs).size ≤ 40 := by
  unfold keyR St.out oText
  rw [if_pos rfl]
  unfold oRaw oCount
  cases h : oInt bs with
  | error e => exact Nat.zero_le 40
  | ok x =>
    obtain ⟨n, r⟩ := x
    dsimp only
    by_cases hm : max (40 : Int) 0 < n
    · rw [if_pos hm]; exact Nat.zero_le 40
    · rw [if_neg hm]
      dsimp only
      unfold oNext
      by_cases hl : n.toNat ≤ r.length
      · rw [if_pos hl]
        dsimp only
        simp only [strOfNums, ByteArray.size, List.size_toArray, List.length_map, List.length_take]
        omega
      · rw [if_neg hl]; exact Nat.zero_le 40
theorem stepE_ok {E F : Ent} {kd : Int} {bs : List Int} (h : stepE E kd bs = some F) (hs : SortedE E) : SortedE F ∧ F.length ≤ E.length + 1 := by
  by_cases h1 : kd = 1
  · subst h1
    rw [stepE_1] at h
    split at h
    · injection h with h; subst h; exact ⟨hs.put _ _, putE_len _ _ _⟩
    · cases h
  · by_cases h2 : kd = 2
    · subst h2
      rw [stepE_2] at h
      split at h
      · injection h with h; subst h; exact ⟨hs.del _, Nat.le_succ_of_le (delE_len _ _)⟩
      · cases h
    · rw [stepE_x E bs h1 h2] at h; cases h
theorem openE_next {l : List SR} {E F : Ent} {j : Nat} (hj : j < l.length) (h : openE (l.take j) [] = some E) (hs : stepE E l[j].kind l[j].bytes = some F) : openE (l.take (j + 1)) [] = some F := by
  rw [← List.take_append_getElem hj]
  exact openE_snoc h hs
theorem openE_fail {l : List SR} {E : Ent} {j : Nat} (hj : j < l.length) (h : openE (l.take j) [] = some E) (hs : stepE E l[j].kind l[j].bytes = none) : openE l [] = none := by
  conv => lhs; rw [← List.take_append_drop j l]
  rw [openE_append, h, List.drop_eq_getElem_cons hj]
  show (stepE E l[j].kind l[j].bytes).bind _ = none
  rw [hs]
  rfl
/-- 'm[k] = v' as one operation of a region that draws its order. -/
theorem step_mapUpdate {P : Program} {Q : Exit → Act → World → Prop} {a : Act} {o : Oper} {K : Act → World → Prop} {w w1 : World} {t : TypeId} {m x v : Operand} {mv kv vv : Value} (hop : o.op = Op.mapUpdate t m x v) (hm : a.eval m = mv) (hx : a.eval x = kv) (hv : a.eval v = vv)
    (hrun : (Instr.mapUpdate t mv kv vv).run P w = .ok () w1) (h : K (a.put o.dst undef) w1) : Oper.wp P o a w K Q := by
  unfold Oper.wp
  simp [execOp, hop, hm, hx, hv, hrun, Result.andThen]
  exact h
theorem EMap.put_run {w : World} {okr okv : Nat → Prop} {mb : Nat} {E : Ent} {A : Option Addr} {c : Nat} {k : ByteArray} {v : List Int} (h : EMap w okr mb E) (hs : SortedE E) (hE : E.length ≤ 65536) (hk : k.size ≤ 64)
    (hne : ∀ j, okr j → j ≠ mb) (hnv : ∀ j, okv j → j ≠ mb) (hF : RB w okv A v) (hc : v.length ≤ c) :
    ∃ w1, (Instr.mapUpdate 97 (.map (some mb)) (.string k) (.slice A v.length c)).run Tryz.prog w = .ok () w1 ∧ EMap w1 (fun j => okr j ∨ okv j) mb (putE k v E) ∧ w.grownBy w1 (some mb) := by
  obtain ⟨f, hM, hr⟩ := h
  obtain ⟨w1, hrun, hM1, hg1⟩ := hM.put (t := 97) (e := 25) Tryz.underlying9 Tryz.underlying97 (by unfold maxLen; omega) (s := k) (by unfold maxLen; omega) (.slice A v.length c)
  refine ⟨w1, hrun, EMap.grow (n := E.length + 1) hr hM1 hg1 hne (hs.put k v) (fun x => ?_), hg1⟩
  rw [look_putE]
  by_cases e : x = k
  · rw [if_pos e, if_pos e]
    exact ⟨A, c, rfl, hc, Kd.F_mono (Kd.F_step hF (fun j hj hlt => hg1.block j hlt (by intro e; injection e with e; exact hnv j hj e))) (fun j hj => .inr hj)⟩
  · rw [if_neg e, if_neg e]
    exact ((hr x).step (fun j hj hlt => hg1.block j hlt (by intro e; injection e with e; exact hne j hj e))).mono (fun j hj => .inl hj)
theorem EMap.del_run {w : World} {okr : Nat → Prop} {mb : Nat} {E : Ent} {k : ByteArray} (h : EMap w okr mb E) (hs : SortedE E) (hk : k.size ≤ 64) (hne : ∀ j, okr j → j ≠ mb) :
    ∃ w1, (Builtin.delete_ #[97, 9] 0 #[.map (some mb), .string k]).run Tryz.prog w = .ok (.tuple #[]) w1 ∧ EMap w1 okr mb (delE k E) ∧ w.grownBy w1 (some mb) := by
  obtain ⟨f, hM, hr⟩ := h
  obtain ⟨w1, hrun, hM1, hg1⟩ := hM.del (t := 97) (e := 25) Tryz.underlying9 Tryz.underlying97 (s := k) (by unfold maxLen; omega) 0
  refine ⟨w1, hrun, EMap.grow (n := E.length) hr hM1 hg1 hne (hs.del k) (fun x => ?_), hg1⟩
  rw [look_delE]
  by_cases e : x = k
  · rw [if_pos e, if_pos e]; rfl
  · rw [if_neg e, if_neg e]
    exact (hr x).step (fun j hj hlt => hg1.block j hlt (by intro e; injection e with e; exact hne j hj e))
/-- A store that is opened, or none. -/
def OpenP (w w' : World) (pd : Nat) (v : Value) : Option SM → Prop
  | none => v = .pointer none
  | some S => ∃ p, v = .pointer (some ⟨p, 0, none⟩) ∧ PSto w' (fun k => w.heap.size ≤ k) p pd S
theorem openF_some {D : DM} {E : Ent} (h1 : D.gone = false) (h2 : ¬ (pickM D).N = 0) (h3 : openE (openR D) [] = some E) :
    openF D = (0, some ⟨D, pickM D, ⟨(baseM D (pickM D).K : Int), (sizeM D : Int), (pickM D).G, (tailOf (openR D) : Int), ((openR D).length : Int)⟩, E, false⟩) := by
  unfold openF
  rw [if_neg (by simp [h1]), if_neg h2, h3]
theorem openF_bad {D : DM} (h1 : D.gone = false) (h2 : ¬ (pickM D).N = 0) (h3 : openE (openR D) [] = none) : openF D = (62, none) := by
  unfold openF
  rw [if_neg (by simp [h1]), if_neg h2, h3]
theorem openF_gone {D : DM} (h1 : D.gone = true) : openF D = (61, none) := by
  unfold openF
  rw [if_pos h1]
theorem openF_none {D : DM} (h1 : D.gone = false) (h2 : (pickM D).N = 0) : openF D = (62, none) := by
  unfold openF
  rw [if_neg (by simp [h1]), if_pos h2]
end Go.Proofs.YticogmpafehomaaGreatDoor

set_option linter.unusedVariables false
set_option linter.unusedSimpArgs false
namespace Go.Proofs.YticogmpafehomaaGreatDoor
open Go.RowKit Go.Proofs.YticogmpafehomaaGreatDoorW.PrintWords Go.Proofs.YticogmpafehomaaGreatDoorW.PrintMore

/-- What is known of an append that gets as far as the disk. -/
structure Putted (D D' : DM) (base size : Nat) (gen : Int) (l : List SR) (r : SR) (E : Int) : Prop where
  wf : D'.wf
  n : D'.n = D.n
  log : Log D' base size gen (if E = 0 then l ++ [r] else l)
  err : E = 0 ∨ (E = 61 ∧ D'.gone = true)
  gone : E = 0 → D'.gone = false
  left : D.left < 0 → E = 0 ∧ D'.left = D.left
  ws : D'.ws.length = D.ws.length + done_ D.left (bodies r + 1)
  all : E = 0 ↔ done_ D.left (bodies r + 1) = bodies r + 1
  right : r.right
  only : OnlyG D gen → OnlyG D' gen
theorem Log.append {D : DM} {base size : Nat} {gen : Int} {l : List SR} (h : Log D base size gen l) (hw : D.wf) (hg : D.gone = false) (hgen : 0 < gen ∧ gen < 18446744073709551616) {kind : Int} {bs : List Int} (hb : Bytes bs)
    (he : hputC ⟨base, size, gen, (tailOf l : Int), (l.length : Int)⟩ kind bs.length = 0) :
    Putted D (D.sealW base ⟨gen, (tailOf l : Int), kind, bs⟩).1 base size gen l ⟨gen, (tailOf l : Int), kind, bs⟩ (D.sealW base ⟨gen, (tailOf l : Int), kind, bs⟩).2 := by
  have hn := h.n
  have hfit := h.fit
  have hD := hw.hi
  obtain ⟨k1, k2, k3⟩ : (0 ≤ kind ∧ kind ≤ 255) ∧ bs.length ≤ 131072 ∧ fitsB ⟨base, size, gen, (tailOf l : Int), (l.length : Int)⟩ bs.length = true := by
    unfold hputC at he
    split at he
    · cases he
    · split at he
      · cases he
      · split at he
        · cases he
        · rename_i a1 a2 a3
          exact ⟨by omega, by omega, by simpa using a3⟩
  have hr : (⟨gen, (tailOf l : Int), kind, bs⟩ : SR).right := ⟨hgen, ⟨by show (0 : Int) ≤ (tailOf l : Int); omega, by show (tailOf l : Int) ≤ 65535; omega⟩, k1, hb, k2⟩
  have hnd := need_bodies (r := ⟨gen, (tailOf l : Int), kind, bs⟩) k2
  unfold fitsB at k3
  have k4 := of_decide_eq_true k3
  dsimp only at k4 hnd
  rw [hnd] at k4
  generalize hR : (⟨gen, (tailOf l : Int), kind, bs⟩ : SR) = r at hr k4 ⊢
  have hra : r.at_ = (tailOf l : Int) := by rw [← hR]
  have hrg : r.gen = gen := by rw [← hR]
  have hfit2 : tailOf l + (bodies r + 1) ≤ size := by omega
  obtain ⟨h1, h2⟩ := sealW_right hw hg hr (base := (base : Int)) (b := base + tailOf l) (by rw [hra]; simp) (by omega) (by omega) (by omega)
  have hm := done_le D.left (bodies r + 1)
  have hlog := h.put hr hrg hra hfit2 h2
  refine ⟨h2.wf, h2.n, ?_, ?_, ?_, ?_, ?_, ?_, hr, fun ho => ho.put hr hrg h2⟩
  · by_cases hd : done_ D.left (bodies r + 1) = bodies r + 1
    · rw [if_pos hd] at hlog
      have e0 : (D.sealW base r).2 = 0 := by rw [h1, if_neg (by omega)]
      rw [e0, if_pos rfl]
      exact hlog
    · rw [if_neg hd] at hlog
      have e0 : (D.sealW base r).2 = 61 := by rw [h1, if_pos (by omega)]
      rw [e0, if_neg (by omega)]
      exact hlog
  · rw [h1]
    by_cases hd : done_ D.left (bodies r + 1) < bodies r + 1
    · rw [if_pos hd]; exact .inr ⟨rfl, by rw [h2.gone]; simpa using hd⟩
    · rw [if_neg hd]; exact .inl rfl
  · intro hE
    rw [h1] at hE
    rw [h2.gone]
    by_cases hd : done_ D.left (bodies r + 1) < bodies r + 1
    · rw [if_pos hd] at hE; cases hE
    · simpa using hd
  · intro hl
    have hd : done_ D.left (bodies r + 1) = bodies r + 1 := by unfold done_; rw [if_pos hl]
    exact ⟨by rw [h1, if_neg (by omega)], by rw [h2.left, if_pos hl]⟩
  · rw [h2.ws, List.length_append, List.length_map, List.length_take, order_len]
    omega
  · rw [h1]
    constructor
    · intro hE
      by_cases hd : done_ D.left (bodies r + 1) < bodies r + 1
      · rw [if_pos hd] at hE; cases hE
      · omega
    · intro hd
      rw [if_neg (by omega)]
end Go.Proofs.YticogmpafehomaaGreatDoor

set_option linter.unusedVariables false
set_option linter.unusedSimpArgs false
namespace Go.Proofs.YticogmpafehomaaGreatDoor
open Go.RowKit Go.Proofs.YticogmpafehomaaGreatDoorW.PrintWords Go.Proofs.YticogmpafehomaaGreatDoorW.PrintMore

end Go.Proofs.YticogmpafehomaaGreatDoor

set_option linter.unusedVariables false
set_option linter.unusedSimpArgs false
namespace Go.Proofs.YticogmpafehomaaGreatDoor
open Go.RowKit Go.Proofs.YticogmpafehomaaGreatDoorW.PrintWords Go.Proofs.YticogmpafehomaaGreatDoorW.PrintMore

/-- A block's generations: as they were, or at most g. -/
def Gens (D D' : DM) (g : Int) : Prop := ∀ j, D'.blk j = D.blk j ∨ ((headR (D'.blk j)).gen ≤ g ∧ (bodyV (D'.blk j)).1 ≤ g)
theorem Gens.refl (D : DM) (g : Int) : Gens D D g := fun _ => .inl rfl
theorem Gens.trans {D D1 D2 : DM} {g : Int} (h : Gens D D1 g) (k : Gens D1 D2 g) : Gens D D2 g := fun j => by
  rcases k j with e | e
  · rw [e]; exact h j
  · exact .inr e
def leftOf (left : Int) (m : Nat) : Int := if left < 0 then left else left - (m : Nat)
theorem done_add {left : Int} {m k : Nat} (h : done_ left m = m) : done_ left (m + k) = m + done_ (leftOf left m) k := by
  unfold done_ leftOf at *
  split at h
  · rename_i hl; rw [if_pos hl, if_pos hl, if_pos hl]
  · rename_i hl
    rw [if_neg hl, if_neg hl, if_neg (by omega)]
    omega
theorem done_short {left : Int} {m k : Nat} (h : ¬ done_ left m = m) : done_ left (m + k) = done_ left m ∧ done_ left m < m := by
  unfold done_ at *
  split at h
  · exact absurd rfl h
  · rename_i hl
    rw [if_neg hl, if_neg hl]
    omega
theorem leftOf_add {left : Int} {m k : Nat} (h : done_ left m = m) : leftOf (leftOf left m) k = leftOf left (m + k) := by
  unfold done_ at h
  unfold leftOf
  split at h
  · rename_i hl; rw [if_pos hl, if_pos hl, if_pos hl]
  · rename_i hl
    rw [if_neg hl, if_neg hl, if_neg (by omega)]
    omega
/-- An append that gets as far as the disk. -/
structure Put1 (D D' : DM) (base size : Nat) (gen : Int) (l : List SR) (r : SR) (E : Int) : Prop where
  p : Putted D D' base size gen l r E
  left : D'.left = leftOf D.left (done_ D.left (bodies r + 1))
  out : ∀ j, ¬ (base ≤ j ∧ j < base + size) → D'.blk j = D.blk j
  gens : Gens D D' gen
theorem hputF_log {D : DM} {base size : Nat} {gen : Int} {l : List SR} (h : Log D base size gen l) (hw : D.wf) (hg : D.gone = false) (hgen : 0 < gen ∧ gen < 18446744073709551616) {kind : Int} (hk : 0 ≤ kind ∧ kind ≤ 255) {bs : List Int} (hb : Bytes bs) (hl : bs.length ≤ 131072)
    (hfit : (tailOf l : Int) + need bs.length ≤ size) :
    Put1 D (hputF D ⟨base, size, gen, (tailOf l : Int), (l.length : Int)⟩ kind bs).2.1 base size gen l ⟨gen, (tailOf l : Int), kind, bs⟩ (hputF D ⟨base, size, gen, (tailOf l : Int), (l.length : Int)⟩ kind bs).1 ∧
    (hputF D ⟨base, size, gen, (tailOf l : Int), (l.length : Int)⟩ kind bs).2.2 = (if (hputF D ⟨base, size, gen, (tailOf l : Int), (l.length : Int)⟩ kind bs).1 = 0 then ⟨base, size, gen, (tailOf (l ++ [⟨gen, (tailOf l : Int), kind, bs⟩]) : Int), ((l ++ [(⟨gen, (tailOf l : Int), kind, bs⟩ : SR)]).length : Int)⟩ else ⟨base, size, gen, (tailOf l : Int), (l.length : Int)⟩) := by
  have hnp := need_pos (n := bs.length) (by omega)
  have hfb : fitsB ⟨base, size, gen, (tailOf l : Int), (l.length : Int)⟩ bs.length = true := by
    unfold fitsB
    rw [decide_eq_true_eq]
    dsimp only
    omega
  have he : hputC ⟨base, size, gen, (tailOf l : Int), (l.length : Int)⟩ kind bs.length = 0 := by
    unfold hputC
    rw [if_neg (by omega), if_neg (by omega), if_neg (by simp [hfb])]
  have hp := h.append hw hg hgen hb he
  have hn := h.n
  have hnd := need_bodies (r := ⟨gen, (tailOf l : Int), kind, bs⟩) hl
  dsimp only at hnd
  obtain ⟨_, h2⟩ := sealW_right hw hg hp.right (base := (base : Int)) (b := base + tailOf l) (by dsimp only; omega) (by omega) (by omega) (by rw [hnd] at hfit; omega)
  unfold hputF
  rw [if_pos he]
  unfold hputH hputR
  dsimp only
  refine ⟨⟨hp, ?_, ?_, ?_⟩, ?_⟩
  · rw [h2.left]; rfl
  · intro j hj
    have hd := done_le D.left (bodies ⟨gen, (tailOf l : Int), kind, bs⟩ + 1)
    rw [h2.blk]
    unfold sealedB
    rw [if_neg (by omega), if_neg (by omega)]
  · intro j
    have hd := done_le D.left (bodies ⟨gen, (tailOf l : Int), kind, bs⟩ + 1)
    rw [h2.blk]
    unfold sealedB
    split
    · refine .inr ?_
      rw [head_R hp.right, head_bodyV]
      exact ⟨Int.le_refl _, by dsimp only; omega⟩
    · split
      · rename_i hj
        refine .inr ?_
        have hb5 : bodies ⟨gen, (tailOf l : Int), kind, bs⟩ ≤ 65535 := by unfold bodies; dsimp only; omega
        rw [(body_headR _ _).1, body_V hp.right (by omega) (by omega)]
        exact ⟨by dsimp only; omega, Int.le_refl _⟩
      · exact .inl rfl
  · split
    · rw [tailOf_snoc, List.length_append, List.length_singleton, hnd]
      simp
    · rfl
/-! ### Entries in order -/
theorem putE_last {k : ByteArray} {v : List Int} : ∀ {E : Ent}, (∀ x ∈ E, bl x.1 < bl k) → putE k v E = E ++ [(k, v)]
  | [], _ => rfl
  | (a, u) :: l, h => by
    have h1 := h (a, u) (List.mem_cons_self ..)
    dsimp only at h1
    simp only [putE]
    rw [if_neg (fun h2 => BL.lt_irrefl _ (BL.lt_trans h1 h2)), if_neg (fun e => by subst e; exact BL.lt_irrefl _ h1), putE_last (fun x hx => h x (List.mem_cons_of_mem _ hx))]
    rfl
theorem sortedE_append {E F : Ent} (h : SortedE (E ++ F)) : ∀ x ∈ E, ∀ y ∈ F, bl x.1 < bl y.1 := by
  induction E with
  | nil => intro x hx; cases hx
  | cons a l ih =>
    have h2 := sortedE_cons.1 h
    intro x hx y hy
    rcases List.mem_cons.1 hx with e | e
    · subst e; exact h2.1 y (List.mem_append_right _ hy)
    · exact ih h2.2 x e y hy
/-- All entries, one behind the other, into a log. -/
structure PutsOut (D D' : DM) (base size : Nat) (gen : Int) (l : List SR) (E0 rest : Ent) (n : Nat) (E : Int) (H' : HM) : Prop where
  wf : D'.wf
  nn : D'.n = D.n
  out : ∀ j, ¬ (base ≤ j ∧ j < base + size) → D'.blk j = D.blk j
  gens : Gens D D' gen
  ws : D'.ws.length = D.ws.length + done_ D.left n
  all : E = 0 ↔ done_ D.left n = n
  yes : E = 0 → D'.gone = false ∧ D'.left = leftOf D.left n ∧ ∃ l', Log D' base size gen l' ∧ H' = ⟨base, size, gen, (tailOf l' : Int), (l'.length : Int)⟩ ∧ openE l' [] = some (E0 ++ rest) ∧ tailOf l' = tailOf l + n
  no : E ≠ 0 → E = 61 ∧ D'.gone = true
theorem putsF_log {base size : Nat} {gen : Int} (hgen : 0 < gen ∧ gen < 18446744073709551616) : ∀ (rest : Ent) (D : DM) (l : List SR) (E0 : Ent), D.wf → D.gone = false → Log D base size gen l → openE l [] = some E0 → SortedE (E0 ++ rest) → (∀ x ∈ rest, keyedB x.1 ∧ Bytes x.2 ∧ 8 + x.1.size + x.2.length ≤ 131072) → (tailOf l : Int) + blocksE rest ≤ size →
    ∃ n : Nat, (n : Int) = blocksE rest ∧ PutsOut D (putsF D ⟨base, size, gen, (tailOf l : Int), (l.length : Int)⟩ rest).2.1 base size gen l E0 rest n (putsF D ⟨base, size, gen, (tailOf l : Int), (l.length : Int)⟩ rest).1 (putsF D ⟨base, size, gen, (tailOf l : Int), (l.length : Int)⟩ rest).2.2
  | [], D, l, E0, hw, hg, hL, ho, _, _, _ => by
    refine ⟨0, rfl, hw, rfl, fun _ _ => rfl, Gens.refl _ _, ?_, ?_, fun _ => ⟨hg, ?_, l, hL, rfl, by rw [List.append_nil]; exact ho, rfl⟩, fun h => absurd rfl h⟩
    · show D.ws.length = _
      unfold done_; split <;> simp
    · show (0 : Int) = 0 ↔ _
      unfold done_; split <;> simp
    · show D.left = _
      unfold leftOf; split <;> simp
  | (k, v) :: rest, D, l, E0, hw, hg, hL, ho, hs, he, hr => by
    rw [blocksE_cons] at hr
    dsimp only at hr
    have hx := he (k, v) (List.mem_cons_self ..)
    dsimp only at hx
    have hkb := hx.1.2
    have hlen := recB_len k v
    have hnk := need_put hx.1 (v := v) (by omega)
    have hnn := blocksE_nn rest
    have hrl : (recB k v).length ≤ 131072 := by omega
    obtain ⟨h1, h2⟩ := hputF_log hL hw hg hgen (kind := 1) (by omega) (recB_bytes (k := k) hx.2.1) hrl (by rw [hnk]; omega)
    have hnd := need_bodies (r := ⟨gen, (tailOf l : Int), 1, recB k v⟩) hrl
    dsimp only at hnd
    rw [hnk] at hnd
    obtain ⟨m, hm⟩ : ∃ m, bodies ⟨gen, (tailOf l : Int), 1, recB k v⟩ + 1 = m := ⟨_, rfl⟩
    have hmI : needK k v.length = (m : Int) := by omega
    have hall := h1.p.all
    have hws := h1.p.ws
    have hleft := h1.left
    rw [hm] at hall hws hleft
    simp only [putsF]
    generalize hq : hputF D ⟨base, size, gen, (tailOf l : Int), (l.length : Int)⟩ 1 (recB k v) = q at h1 h2 hall hws hleft
    obtain ⟨E, D', H'⟩ := q
    dsimp only at h1 h2 hall hws hleft ⊢
    by_cases hE : E = 0
    · subst hE
      rw [if_pos rfl] at h2 ⊢
      have hfull := hall.1 rfl
      have hst : stepE E0 1 (recB k v) = some (E0 ++ [(k, v)]) := by
        rw [step_put hx.1 (by omega), putE_last (fun x hx2 => sortedE_append hs x hx2 (k, v) (List.mem_cons_self ..))]
      have hop := openE_snoc (r := ⟨gen, (tailOf l : Int), 1, recB k v⟩) ho hst
      have hL2 := h1.p.log
      rw [if_pos rfl] at hL2
      have htl := tailOf_snoc l ⟨gen, (tailOf l : Int), 1, recB k v⟩
      rw [hm] at htl
      rw [h2]
      obtain ⟨n, hn, P⟩ := putsF_log hgen rest D' _ (E0 ++ [(k, v)]) h1.p.wf (h1.p.gone rfl) hL2 hop (by rw [List.append_assoc]; exact hs) (fun x hx2 => he x (List.mem_cons_of_mem _ hx2)) (by rw [htl]; omega)
      rw [hfull] at hleft hws
      have hda := done_add (k := n) hfull
      have hla := leftOf_add (k := n) hfull
      have pws := P.ws
      have pall := P.all
      rw [hleft] at pws pall
      refine ⟨m + n, by rw [blocksE_cons]; dsimp only; omega, P.wf, P.nn.trans h1.p.n, fun j hj => (P.out j hj).trans (h1.out j hj), h1.gens.trans P.gens, by omega, by rw [pall]; omega, fun h0 => ?_, P.no⟩
      obtain ⟨q1, q2, l', q3, q4, q5, q6⟩ := P.yes h0
      refine ⟨q1, by rw [q2, hleft, hla], l', q3, q4, by rw [q5, List.append_assoc]; rfl, by rw [q6, htl]; omega⟩
    · rw [if_neg hE]
      have hsh : ¬ done_ D.left m = m := fun h => hE (hall.2 h)
      obtain ⟨n, hn⟩ := Int.eq_ofNat_of_zero_le hnn
      obtain ⟨hd1, hd2⟩ := done_short (k := n) hsh
      refine ⟨m + n, by rw [blocksE_cons]; dsimp only; omega, h1.p.wf, h1.p.n, h1.out, h1.gens, by rw [hd1]; exact hws, ?_, fun h => absurd h hE, fun _ => ?_⟩
      · rw [hd1]
        constructor
        · intro h; exact absurd h hE
        · intro h; omega
      · rcases h1.p.err with e | e
        · exact absurd e hE
        · exact e
end Go.Proofs.YticogmpafehomaaGreatDoor

set_option linter.unusedVariables false
set_option linter.unusedSimpArgs false
namespace Go.Proofs.YticogmpafehomaaGreatDoor
open Go.RowKit Go.Proofs.YticogmpafehomaaGreatDoorW.PrintWords Go.Proofs.YticogmpafehomaaGreatDoorW.PrintMore

theorem LiesB.same {D D' : DM} {base : Nat} {gen : Int} : ∀ (l : List SR) (a : Nat), (∀ j, base + a ≤ j → j < base + a + tailOf l → D'.blk j = D.blk j) → LiesB D base gen a l → LiesB D' base gen a l
  | [], _, _, _ => trivial
  | r :: l, a, h, hl => by
    obtain ⟨h1, h2, h3, h4, h5⟩ := hl
    rw [tailOf_cons] at h
    refine ⟨h1, h2, h3, ⟨(h _ (by omega) (by omega)).trans h4.1, fun k hk => (h _ (by omega) (by omega)).trans (h4.2 k hk)⟩, LiesB.same l _ (fun j hj hj2 => h j (by omega) (by omega)) h5⟩
theorem Log.same {D D' : DM} {base size : Nat} {gen : Int} {l : List SR} (h : Log D base size gen l) (hb : ∀ j, base ≤ j → j < base + size → D'.blk j = D.blk j) (hn : D'.n = D.n) : Log D' base size gen l := by
  have hf := h.fit
  refine ⟨LiesB.same l 0 (fun j h1 h2 => hb j (by omega) (by omega)) h.lies, fun j h1 h2 => ?_, hf, by rw [hn]; exact h.n⟩
  rw [hb j (by omega) h2]
  exact h.free j h1 h2
theorem pick_same {D D' : DM} (h0 : D'.blk 0 = D.blk 0) (h1 : D'.blk 1 = D.blk 1) : pickM D' = pickM D := by unfold pickM; rw [h0, h1]
theorem pick_flip {D D' : DM} {m : MM} (hm : m.ok) (hN : (pickM D).N < m.N) (hb : ∀ j : Nat, D'.blk j = if (j : Int) = m.N % 2 then packB m else D.blk j) : pickM D' = m := by
  have hpp := parse_pack hm
  have b0 := hb 0
  have b1 := hb 1
  rcases (by omega : m.N % 2 = 0 ∨ m.N % 2 = 1) with e | e
  · rw [e] at b0 b1 hpp
    rw [if_pos (by omega)] at b0
    rw [if_neg (by omega)] at b1
    unfold pickM
    rw [b0, b1, hpp, better_zero hm]
    cases h1 : parseM (D.blk 1) 1 with
    | none => rfl
    | some y =>
      have := pick_max D (.inr h1)
      rw [better_some, if_neg (by omega)]
  · rw [e] at b0 b1 hpp
    rw [if_neg (by omega)] at b0
    rw [if_pos (by omega)] at b1
    unfold pickM
    rw [b0, b1, hpp]
    cases h0 : parseM (D.blk 0) 0 with
    | none => exact better_zero hm
    | some x =>
      have := pick_max D (.inl h0)
      rw [better_zero (parse_ok h0).1, better_some, if_pos (by omega)]
/-! ### The greatest generation -/
theorem gotM_le {g x c : Int} (hg : g ≤ c) (hx : x ≤ mostN → x ≤ c) : gotM g x ≤ c := by
  unfold gotM
  split
  · have := hx (by assumption); omega
  · exact hg
theorem gotM_ge (g x : Int) : g ≤ gotM g x ∧ (x ≤ mostN → x ≤ gotM g x) := by
  unfold gotM
  split
  · exact ⟨by omega, fun _ => by omega⟩
  · exact ⟨Int.le_refl _, fun h => by omega⟩
theorem genTo_le {D : DM} {c : Int} (h0 : 0 ≤ c) : ∀ k, (∀ i, i < k → i < 2 → ∀ x, parseM (D.blk i) i = some x → x.G ≤ c) → (∀ i, i < k → ¬ i < 2 → ((headR (D.blk i)).gen ≤ mostN → (headR (D.blk i)).gen ≤ c) ∧ ((bodyV (D.blk i)).1 ≤ mostN → (bodyV (D.blk i)).1 ≤ c)) → genTo D k ≤ c
  | 0, _, _ => h0
  | k + 1, h1, h2 => by
    have ih := genTo_le h0 k (fun i hi => h1 i (by omega)) (fun i hi => h2 i (by omega))
    show genAt D (genTo D k) k ≤ c
    unfold genAt
    split
    · rename_i hk
      cases hp : parseM (D.blk k) k with
      | none => exact ih
      | some x =>
        have := h1 k (by omega) hk x hp
        simp only [Option.map, Option.getD]
        omega
    · rename_i hk
      have := h2 k (by omega) hk
      exact gotM_le (gotM_le ih this.1) this.2
theorem genTo_mono (D : DM) {i : Nat} : ∀ k, i ≤ k → genTo D i ≤ genTo D k
  | 0, h => by obtain rfl : i = 0 := by omega
               exact Int.le_refl _
  | k + 1, h => by
    rcases Nat.lt_or_ge i (k + 1) with h2 | h2
    · exact Int.le_trans (genTo_mono D k (by omega)) (genAt_ge D _ k)
    · obtain rfl : i = k + 1 := by omega
      exact Int.le_refl _
theorem stG_man {D : DM} {i : Nat} (hi : i < D.n) (h2 : i < 2) {x : MM} (hx : parseM (D.blk i) i = some x) : x.G ≤ stG D := by
  refine Int.le_trans ?_ (genTo_mono D (i := i + 1) D.n (by omega))
  show _ ≤ genAt D (genTo D i) i
  unfold genAt
  rw [if_pos h2, hx]
  simp only [Option.map, Option.getD]
  omega
theorem stG_blk {D : DM} {i : Nat} (hi : i < D.n) (h2 : ¬ i < 2) : ((headR (D.blk i)).gen ≤ mostN → (headR (D.blk i)).gen ≤ stG D) ∧ ((bodyV (D.blk i)).1 ≤ mostN → (bodyV (D.blk i)).1 ≤ stG D) := by
  have hm := genTo_mono D (i := i + 1) D.n (by omega)
  have he : genTo D (i + 1) = gotM (gotM (genTo D i) (headR (D.blk i)).gen) (bodyV (D.blk i)).1 := by
    show genAt D (genTo D i) i = _
    unfold genAt
    rw [if_neg h2]
  rw [he] at hm
  have g1 := gotM_ge (genTo D i) (headR (D.blk i)).gen
  have g2 := gotM_ge (gotM (genTo D i) (headR (D.blk i)).gen) (bodyV (D.blk i)).1
  exact ⟨fun h => Int.le_trans (g1.2 h) (Int.le_trans g2.1 hm), fun h => Int.le_trans (g2.2 h) hm⟩
/-- What stays below c, stays. -/
theorem stG_gens {D D' : DM} {g c : Int} (hn : D'.n = D.n) (hc : stG D ≤ c) (hg : g ≤ c) (h : ∀ j, ¬ j < 2 → D'.blk j = D.blk j ∨ ((headR (D'.blk j)).gen ≤ g ∧ (bodyV (D'.blk j)).1 ≤ g)) (hm : ∀ i, i < 2 → ∀ x, parseM (D'.blk i) i = some x → parseM (D.blk i) i = some x ∨ x.G ≤ c) : stG D' ≤ c := by
  have h0 := (stG_bnd D).1
  refine genTo_le (Int.le_trans h0 hc) _ (fun i hi h2 x hx => ?_) (fun i hi h2 => ?_)
  · rw [hn] at hi
    rcases hm i h2 x hx with e | e
    · exact Int.le_trans (stG_man hi h2 e) hc
    · exact e
  · rw [hn] at hi
    rcases h i h2 with e | e
    · rw [e]
      have := stG_blk hi h2
      exact ⟨fun h => Int.le_trans (this.1 h) hc, fun h => Int.le_trans (this.2 h) hc⟩
    · exact ⟨fun _ => Int.le_trans e.1 hg, fun _ => Int.le_trans e.2 hg⟩
theorem half_in {D : DM} (h : D.wf) {K : Int} (hK : 0 ≤ K ∧ K ≤ 1) : 2 ≤ baseM D K ∧ baseM D K + sizeM D ≤ D.n ∧ 7 ≤ sizeM D ∧ sizeM D ≤ 2047 := by
  have h1 := h.lo
  have h2 := h.hi
  unfold baseM sizeM
  rcases (by omega : K = 0 ∨ K = 1) with rfl | rfl
  · simp; omega
  · simp; omega
/-- A half that no generation has reached. -/
theorem fresh_log {D : DM} (h : D.wf) {K g : Int} (hK : 0 ≤ K ∧ K ≤ 1) (h1 : stG D < g) (h2 : g ≤ mostN) : Log D (baseM D K) (sizeM D) g [] := by
  obtain ⟨b1, b2, _, _⟩ := half_in h hK
  refine ⟨trivial, fun j hj hj2 hk => ?_, Nat.zero_le _, b2⟩
  have := (stG_blk (D := D) (i := j) (by omega) (by simp [tailOf] at hj; omega)).1
  intro e
  have := this (by omega)
  omega
/-- The other half stands apart. -/
theorem half_apart {D : DM} (h : D.wf) {K : Int} (hK : 0 ≤ K ∧ K ≤ 1) {j : Nat} (hj : baseM D K ≤ j) (hj2 : j < baseM D K + sizeM D) : ¬ (baseM D (1 - K) ≤ j ∧ j < baseM D (1 - K) + sizeM D) := by
  have h1 := h.lo
  unfold baseM at *
  generalize sizeM D = s at *
  rcases (by omega : K = 0 ∨ K = 1) with rfl | rfl
  · simp at *; omega
  · simp at *; omega
/-! ### The flip -/
theorem flip_on {D : DM} (h : D.wf) (hg : D.gone = false) {m : MM} (hl : ¬ D.left = 0) :
    (flipF D m).1 = 0 ∧ (flipF D m).2.gone = false ∧ (flipF D m).2.left = leftOf D.left 1 ∧ (flipF D m).2.ws.length = D.ws.length + 1 ∧ ∀ j : Nat, (flipF D m).2.blk j = if (j : Int) = m.N % 2 then packB m else D.blk j := by
  have h1 := h.lo
  obtain ⟨a1, a2, a3, a4, a5, a6⟩ := write_on h hg (i := m.N % 2) (by omega) (pack_len m) hl
  refine ⟨a1, a2, ?_, ?_, a6⟩
  · unfold flipF
    rw [a3]
    unfold leftOf
    split <;> split <;> omega
  · unfold flipF
    rw [a5]
    simp
theorem flip_off {D : DM} (h : D.wf) (hg : D.gone = false) {m : MM} (hl : D.left = 0) : (flipF D m).1 = 61 ∧ (flipF D m).2 = { D with gone := true } := by
  have h1 := h.lo
  exact write_off hg (i := m.N % 2) (by omega) (pack_len m) hl
end Go.Proofs.YticogmpafehomaaGreatDoor

set_option linter.unusedVariables false
set_option linter.unusedSimpArgs false
namespace Go.Proofs.YticogmpafehomaaGreatDoor
open Go.RowKit Go.Proofs.YticogmpafehomaaGreatDoorW.PrintWords Go.Proofs.YticogmpafehomaaGreatDoorW.PrintMore

def onD (D : DM) : DM := { D with left := -1, gone := false }
theorem onD_wf {D : DM} (h : D.wf) : (onD D).wf := ⟨h.len, h.lo, h.hi, by simp [onD], by simp [onD], h.bytes, h.wsB⟩
/-- A store as it should be; l: its log's records. -/
structure Good (S : SM) (l : List SR) : Prop where
  wf : S.wf
  alive : S.dead = false
  gone : S.D.gone = false
  pick : pickM S.D = S.m
  log : Log S.D (baseM S.D S.m.K) (sizeM S.D) S.m.G l
  H : S.H = ⟨(baseM S.D S.m.K : Int), (sizeM S.D : Int), S.m.G, (tailOf l : Int), (l.length : Int)⟩
  opn : openE l [] = some S.E
  blk : blocksE S.E ≤ tailOf l
  big : ∀ x ∈ S.E, 8 + x.1.size + x.2.length ≤ 131072
theorem Good.opens {S : SM} {l : List SR} (h : Good S l) : openF S.D = (0, some S) := by
  have hN : ¬ (pickM S.D).N = 0 := by rw [h.pick]; have := h.wf.m.1; omega
  have hl : openR S.D = l := by unfold openR; rw [h.pick]; exact h.log.recs h.gone
  have := openF_some h.gone hN (E := S.E) (by rw [hl]; exact h.opn)
  rw [hl, h.pick, ← h.H] at this
  rw [this]
  obtain ⟨D, m, H, E, d⟩ := S
  have hd := h.alive
  dsimp only at hd ⊢
  rw [hd]
theorem Good.len {S : SM} {l : List SR} (h : Good S l) : S.E.length ≤ 4096 := by
  have h1 := h.wf.len
  have h2 := h.wf.nt
  have h3 := h.wf.ts
  rw [h.wf.size] at h3
  have := (half_in h.wf.d (K := 0) (by omega)).2.2.2
  omega
/-- Numbers that stay below c. -/
structure Tight (S : SM) (c : Int) : Prop where
  g : stG S.D ≤ c
  n : S.m.N ≤ c
  m : S.m.G ≤ c
structure DoneR (S : SM) (R : Int × SM) (F : Ent) (n : Nat) : Prop where
  e : R.1 = 0
  good : ∃ l', Good R.2 l'
  E : R.2.E = F
  ws : R.2.D.ws.length = S.D.ws.length + n
  left : R.2.D.left = leftOf S.D.left n
  full : done_ S.D.left n = n
  le : n ≤ 4096
  nn : R.2.D.n = S.D.n
  tight : ∀ c, Tight S c → Tight R.2 (c + 1)
structure Crash (S : SM) (l : List SR) (R : Int × SM) (n : Nat) : Prop where
  e : R.1 = 61
  dead : R.2.dead = true
  gone : R.2.D.gone = true
  wf : R.2.wf
  ws : R.2.D.ws.length = S.D.ws.length + done_ S.D.left n
  lt : ¬ done_ S.D.left n = n
  le : n ≤ 4096
  E : R.2.E = S.E
  nn : R.2.D.n = S.D.n
  good : Good { S with D := onD R.2.D } l
def ResF (S : SM) (l : List SR) (R : Int × SM) (F : Ent) : Prop :=
  (∃ n, DoneR S R F n) ∨ (R = (63, S) ∧ (sizeM S.D : Int) < blocksE F) ∨ (R = (62, S) ∧ ¬ (sizeM S.D : Int) < blocksE F ∧ (S.m.N = mostN ∨ stG S.D = mostN)) ∨ ∃ n, Crash S l R n
theorem parse_flip {D D' : DM} {m : MM} (hm : m.ok) (hb : ∀ j : Nat, D'.blk j = if (j : Int) = m.N % 2 then packB m else D.blk j) {i : Nat} {x : MM} (hx : parseM (D'.blk i) i = some x) : parseM (D.blk i) i = some x ∨ x = m := by
  rw [hb] at hx
  split at hx
  · rename_i e
    rw [e, parse_pack hm] at hx
    injection hx with hx
    exact .inr hx.symm
  · exact .inl hx
set_option maxHeartbeats 1000000 in
theorem compact_res {S : SM} {l : List SR} (h : Good S l) {F : Ent} (hF : EntOK F) (hbig : ∀ x ∈ F, 8 + x.1.size + x.2.length ≤ 131072) : ResF S l (compactF S F) F := by
  have hwf' := compactF_wf h.wf hF
  unfold ResF
  unfold compactF at hwf' ⊢
  by_cases h1 : (sizeM S.D : Int) < blocksE F
  · rw [if_pos h1]; exact .inr (.inl ⟨rfl, h1⟩)
  rw [if_neg h1, if_neg (by simp [h.gone])] at hwf' ⊢
  by_cases h3 : S.m.N = mostN ∨ stG S.D = mostN
  · rw [if_pos h3]; exact .inr (.inr (.inl ⟨rfl, h1, h3⟩))
  rw [if_neg h3] at hwf' ⊢
  have hok := next_ok h.wf h3
  have hmk := h.wf.m
  have hst := stG_bnd S.D
  have hKK : S.next.K = 1 - S.m.K := rfl
  have hGG : S.next.G = stG S.D + 1 := rfl
  have hNN : S.next.N = S.m.N + 1 := rfl
  have hK0 : 0 ≤ S.next.K ∧ S.next.K ≤ 1 := ⟨hok.2.2.2.2.1, hok.2.2.2.2.2⟩
  have hL0 := fresh_log h.wf.d hK0 (g := S.next.G) (by omega) hok.2.2.2.1
  obtain ⟨b1, b2, b3, b4⟩ := half_in h.wf.d hK0
  have hG : 0 < S.next.G ∧ S.next.G < 18446744073709551616 := by have := hok.2.2.2.1; unfold mostN at this; have := hok.2.2.1; omega
  obtain ⟨n, hn, P⟩ := putsF_log hG F S.D [] [] h.wf.d h.gone hL0 rfl (by simpa using hF.sorted) (fun x hx => ⟨(hF.ent x hx).1, (hF.ent x hx).2.1, hbig x hx⟩) (by simp [tailOf]; omega)
  have hlog0 : log0 S.D S.next = ⟨(baseM S.D S.next.K : Int), (sizeM S.D : Int), S.next.G, (tailOf ([] : List SR) : Int), (([] : List SR).length : Int)⟩ := rfl
  have hputs : ∀ R, putsF S.D (log0 S.D S.next) F = R → PutsOut S.D R.2.1 (baseM S.D S.next.K) (sizeM S.D) S.next.G [] [] F n R.1 R.2.2 := fun R hR => by rw [← hR, hlog0]; exact P
  clear P hlog0
  generalize hq : putsF S.D (log0 S.D S.next) F = q at hwf' ⊢
  have P := hputs q hq
  clear hputs hq
  obtain ⟨E, D1, H1⟩ := q
  dsimp only at P hwf' ⊢
  have hn4 : n ≤ 2047 := by omega
  have o0 := P.out 0 (by omega)
  have o1 := P.out 1 (by omega)
  have hpk1 : pickM D1 = S.m := (pick_same o0 o1).trans h.pick
  have hold : ∀ D2 : DM, D2.n = S.D.n → D2.wf → (∀ j, D2.blk j = D1.blk j) → D2.gone = false → Good { S with D := D2 } l := fun D2 e1 e2 e3 e4 => by
    have hlog : Log D2 (baseM S.D S.m.K) (sizeM S.D) S.m.G l := h.log.same (fun j hj hj2 => (e3 j).trans (P.out j (by rw [hKK]; exact half_apart h.wf.d ⟨hmk.2.2.2.2.1, hmk.2.2.2.2.2⟩ hj hj2))) e1
    refine ⟨h.wf.disk e2 e1, h.alive, e4, ?_, ?_, ?_, h.opn, h.blk, h.big⟩
    · exact (pick_same (e3 0) (e3 1)).trans hpk1
    · dsimp only; rw [baseM_n e1, sizeM_n e1]; exact hlog
    · dsimp only; rw [baseM_n e1, sizeM_n e1]; exact h.H
  by_cases hE : E = 0
  · rw [if_pos hE] at hwf' ⊢
    obtain ⟨y1, y2, l', y3, y4, y5, y6⟩ := P.yes hE
    have hfull := P.all.1 hE
    have hda := done_add (k := 1) hfull
    have hla := leftOf_add (k := 1) hfull
    have hws := P.ws
    by_cases hl0 : D1.left = 0
    · obtain ⟨f1, f2⟩ := flip_off P.wf y1 (m := S.next) hl0
      rw [f1, f2] at hwf' ⊢
      rw [if_neg (by omega)] at hwf' ⊢
      refine .inr (.inr (.inr ⟨n + 1, rfl, rfl, rfl, hwf', ?_, ?_, by omega, rfl, P.nn, hold _ P.nn (onD_wf (D := { D1 with gone := true }) ⟨P.wf.len, P.wf.lo, P.wf.hi, P.wf.l1, P.wf.l2, P.wf.bytes, P.wf.wsB⟩) (fun _ => rfl) rfl⟩))
      · dsimp only
        rw [hda, ← y2, hl0]
        rw [hws, hfull]
        unfold done_
        rw [if_neg (by omega)]
        simp
      · rw [hda, ← y2, hl0]
        unfold done_
        rw [if_neg (by omega)]
        simp
    · obtain ⟨f1, f2, f3, f4, f5⟩ := flip_on P.wf y1 (m := S.next) hl0
      have f6 := flip_n P.wf S.next
      rw [if_pos f1] at hwf' ⊢
      generalize (flipF D1 S.next).2 = D2 at f2 f3 f4 f5 f6 hwf' ⊢
      have hn2 := f6.trans P.nn
      have hpk2 := pick_flip hok (by rw [hpk1, hNN]; omega) f5
      have hd1 : done_ D1.left 1 = 1 := by
        unfold done_
        split <;> omega
      refine .inl ⟨n + 1, rfl, ⟨l', hwf', h.alive, f2, hpk2, ?_, ?_, y5, ?_, hbig⟩, rfl, ?_, ?_, ?_, by omega, hn2, fun c hc => ?_⟩
      · dsimp only
        rw [baseM_n hn2, sizeM_n hn2]
        exact y3.same (fun j hj hj2 => by rw [f5, if_neg (by omega)]) f6
      · dsimp only
        rw [baseM_n hn2, sizeM_n hn2]
        exact y4
      · dsimp only
        rw [y6, ← hn]
        simp [tailOf]
      · dsimp only
        rw [f4, hws, hfull]
        omega
      · dsimp only
        rw [f3, y2, hla]
      · rw [hda, ← y2, hd1]
      · have e1 := hc.g
        have e2 := hc.n
        have e3 := hc.m
        refine ⟨?_, by dsimp only; omega, by dsimp only; omega⟩
        dsimp only
        refine stG_gens (D := S.D) (g := S.next.G) hn2 (by omega) (by omega) (fun j hj => ?_) (fun i hi x hx => ?_)
        · rw [f5, if_neg (by omega)]
          exact P.gens j
        · rcases parse_flip hok f5 hx with e | e
          · refine .inl ?_
            rw [← e]
            rcases (by omega : i = 0 ∨ i = 1) with rfl | rfl
            · rw [o0]
            · rw [o1]
          · subst e; exact .inr (by omega)
  · rw [if_neg hE] at hwf' ⊢
    obtain ⟨x1, x2⟩ := P.no hE
    exact .inr (.inr (.inr ⟨n, x1, rfl, x2, hwf', P.ws, fun hh => hE (P.all.2 hh), by omega, rfl, P.nn, hold (onD D1) P.nn (onD_wf P.wf) (fun _ => rfl) rfl⟩))
end Go.Proofs.YticogmpafehomaaGreatDoor

set_option linter.unusedVariables false
set_option linter.unusedSimpArgs false
namespace Go.Proofs.YticogmpafehomaaGreatDoor
open Go.RowKit Go.Proofs.YticogmpafehomaaGreatDoorW.PrintWords Go.Proofs.YticogmpafehomaaGreatDoorW.PrintMore

set_option maxHeartbeats 1000000 in
theorem change_res {S : SM} {l : List SR} (h : Good S l) {kind : Int} (hk : 0 ≤ kind ∧ kind ≤ 255) {bs : List Int} (hb : Bytes bs) (hl : bs.length ≤ 131072) {F : Ent} (hs : stepE S.E kind bs = some F) (hF : EntOK F) (hFl : F.length ≤ S.E.length + 1) (hbig : ∀ x ∈ F, 8 + x.1.size + x.2.length ≤ 131072)
    (hn : blocksE F ≤ blocksE S.E + need bs.length) : ResF S l (changeF S kind bs F) F := by
  have hwf' := changeF_wf h.wf kind hb hF hFl
  have hm := h.wf.m
  have hG : 0 < S.m.G ∧ S.m.G < 18446744073709551616 := by have h1 := hm.2.2.1; have h2 := hm.2.2.2.1; unfold mostN at h2; omega
  have hhf := half_in h.wf.d ⟨hm.2.2.2.2.1, hm.2.2.2.2.2⟩
  unfold changeF at hwf' ⊢
  by_cases hfit : fitsB S.H bs.length = true
  · rw [if_pos hfit] at hwf' ⊢
    have hfit2 : (tailOf l : Int) + need bs.length ≤ sizeM S.D := by
      rw [h.H] at hfit
      unfold fitsB at hfit
      have := of_decide_eq_true hfit
      dsimp only at this
      omega
    obtain ⟨P, hH⟩ := hputF_log h.log h.wf.d h.gone hG hk hb hl hfit2
    rw [← h.H] at P hH
    have hnd := need_bodies (r := ⟨S.m.G, (tailOf l : Int), kind, bs⟩) hl
    dsimp only at hnd
    obtain ⟨n, hnb⟩ : ∃ n, bodies ⟨S.m.G, (tailOf l : Int), kind, bs⟩ + 1 = n := ⟨_, rfl⟩
    have hall := P.p.all
    have hws := P.p.ws
    have hleft := P.left
    have htl := tailOf_snoc l ⟨S.m.G, (tailOf l : Int), kind, bs⟩
    rw [hnb] at hall hws hleft htl
    generalize hq : hputF S.D S.H kind bs = q at P hH hall hws hleft hwf' ⊢
    obtain ⟨E, D', H'⟩ := q
    dsimp only at P hH hall hws hleft hwf' ⊢
    have hn2 := P.p.n
    have o0 := P.out 0 (by omega)
    have o1 := P.out 1 (by omega)
    by_cases hE : E = 0
    · subst hE
      rw [if_pos rfl] at hwf' hH ⊢
      have hfull := hall.1 rfl
      have hlog := P.p.log
      rw [if_pos rfl] at hlog
      refine .inl ⟨n, rfl, ⟨_, hwf', h.alive, P.p.gone rfl, (pick_same o0 o1).trans h.pick, ?_, ?_, openE_snoc (r := ⟨S.m.G, (tailOf l : Int), kind, bs⟩) h.opn hs, ?_, hbig⟩, rfl, ?_, ?_, hfull, by omega, hn2, fun c hc => ?_⟩
      · dsimp only; rw [baseM_n hn2, sizeM_n hn2]; exact hlog
      · dsimp only; rw [baseM_n hn2, sizeM_n hn2]; exact hH
      · dsimp only; rw [htl]; have := h.blk; push_cast; omega
      · dsimp only; rw [hws, hfull]
      · dsimp only; rw [hleft, hfull]
      · have e1 := hc.g
        have e2 := hc.n
        have e3 := hc.m
        refine ⟨?_, by dsimp only; omega, by dsimp only; omega⟩
        dsimp only
        refine stG_gens (D := S.D) (g := S.m.G) hn2 (by omega) (by omega) (fun j hj => P.gens j) (fun i hi x hx => ?_)
        refine .inl ?_
        rw [← hx]
        rcases (by omega : i = 0 ∨ i = 1) with rfl | rfl
        · rw [o0]
        · rw [o1]
    · rw [if_neg hE] at hwf' hH ⊢
      have hlt : ¬ done_ S.D.left n = n := fun hh => hE (hall.2 hh)
      have hlog := P.p.log
      rw [if_neg hE] at hlog
      obtain ⟨x1, x2⟩ : E = 61 ∧ D'.gone = true := P.p.err.elim (fun e => absurd e hE) id
      subst hH
      refine .inr (.inr (.inr ⟨n, x1, rfl, x2, hwf', hws, hlt, by omega, rfl, hn2, ?_⟩))
      refine ⟨h.wf.disk (onD_wf P.p.wf) hn2, h.alive, rfl, (pick_same o0 o1).trans h.pick, ?_, ?_, h.opn, h.blk, h.big⟩
      · dsimp only
        rw [baseM_n (D := S.D) (D' := onD D') hn2, sizeM_n (D := S.D) (D' := onD D') hn2]
        exact hlog.same (fun _ _ _ => rfl) rfl
      · dsimp only
        rw [baseM_n (D := S.D) (D' := onD D') hn2, sizeM_n (D := S.D) (D' := onD D') hn2]
        exact h.H
  · rw [if_neg hfit]
    exact compact_res h hF hbig
/-- What Put makes of it. -/
def PutR (S : SM) (l : List SR) (k : ByteArray) (v : List Int) (R : Int × SM) : Prop :=
  (R = (1, S) ∧ ¬ keyedB k) ∨ (keyedB k ∧ R = (3, S) ∧ (131072 : Int) - 8 - k.size < v.length) ∨ (keyedB k ∧ R = (0, S) ∧ look S.E k = some v) ∨ (keyedB k ∧ ¬ look S.E k = some v ∧ ResF S l R (putE k v S.E))
theorem put_res {S : SM} {l : List SR} (h : Good S l) (k : ByteArray) {v : List Int} (hv : Bytes v) : PutR S l k v (putF S k v) := by
  unfold PutR putF
  rw [if_neg (by simp [h.alive])]
  by_cases hk : keyedB k
  · rw [if_neg (by simpa using hk)]
    by_cases hb : (131072 : Int) - 8 - k.size < v.length
    · rw [if_pos hb]; exact .inr (.inl ⟨hk, rfl, hb⟩)
    rw [if_neg hb]
    by_cases hl : look S.E k = some v
    · rw [if_pos hl]; exact .inr (.inr (.inl ⟨hk, rfl, hl⟩))
    rw [if_neg hl]
    have hk2 := hk.2
    have hrl := recB_len k v
    refine .inr (.inr (.inr ⟨hk, hl, change_res h (by omega) (recB_bytes hv) (by omega) (step_put hk (by omega)) (h.wf.entOK.put hk hv (by omega)) (putE_len k v S.E) (fun x hx => ?_) ?_⟩))
    · rcases mem_putE hx with e | e
      · subst e; dsimp only; omega
      · exact h.big x e
    · rw [need_put hk (by omega)]
      exact blocksE_put k v S.E
  · rw [if_pos hk]; exact .inl ⟨rfl, hk⟩
def DelR (S : SM) (l : List SR) (k : ByteArray) (R : Int × SM) : Prop :=
  (R = (1, S) ∧ ¬ keyedB k) ∨ (keyedB k ∧ R = (0, S) ∧ look S.E k = none) ∨ (keyedB k ∧ ¬ look S.E k = none ∧ ¬ (sizeM S.D : Int) < blocksE (delE k S.E) ∧ ResF S l R (delE k S.E))
theorem del_res {S : SM} {l : List SR} (h : Good S l) (k : ByteArray) : DelR S l k (delF S k) := by
  unfold DelR delF
  rw [if_neg (by simp [h.alive])]
  by_cases hk : keyedB k
  · rw [if_neg (by simpa using hk)]
    by_cases hl : look S.E k = none
    · rw [if_pos hl]; exact .inr (.inl ⟨hk, rfl, hl⟩)
    rw [if_neg hl]
    have hk2 := hk.2
    have hrl : (rawB (bytesOf k)).length = 4 + k.size := by rw [rawB_length, bytesOf_length]
    have hnp := need_pos (n := (rawB (bytesOf k)).length) (by omega)
    have hbd := blocksE_del k S.E
    refine .inr (.inr ⟨hk, hl, ?_, change_res h (by omega) (rawB_bytes (bytesOf_bytes k)) (by omega) (step_del hk) (h.wf.entOK.del k) (Nat.le_succ_of_le (delE_len k S.E)) (fun x hx => h.big x (mem_delE hx)) (by omega)⟩)
    have h1 := h.blk
    have h2 := h.log.fit
    omega
  · rw [if_pos hk]; exact .inl ⟨rfl, hk⟩
/-- Format. -/
theorem format_res {D : DM} (h : D.wf) (hg : D.gone = false) : (formatF D = (62, D, none) ∧ ((pickM D).N = mostN ∨ stG D = mostN)) ∨ (D.left = 0 ∧ formatF D = (61, { D with gone := true }, none)) ∨
    ∃ S, formatF D = (0, S.D, some S) ∧ Good S [] ∧ S.E = [] ∧ S.D.n = D.n ∧ S.D.ws.length = D.ws.length + 1 ∧ S.D.left = leftOf D.left 1 ∧ ¬ D.left = 0 ∧ S.m = ⟨(pickM D).N + 1, stG D + 1, 0⟩ ∧ stG S.D ≤ stG D + 1 := by
  by_cases h3 : (pickM D).N = mostN ∨ stG D = mostN
  · refine .inl ⟨?_, h3⟩
    unfold formatF
    rw [if_neg (by simp [hg]), if_pos h3]
  have hp := pick_N D
  have hs := stG_bnd D
  obtain ⟨m, hm⟩ : ∃ m : MM, (⟨(pickM D).N + 1, stG D + 1, 0⟩ : MM) = m := ⟨_, rfl⟩
  have hmN : m.N = (pickM D).N + 1 := by rw [← hm]
  have hmG : m.G = stG D + 1 := by rw [← hm]
  have hmK : m.K = 0 := by rw [← hm]
  have hok : m.ok := by unfold MM.ok; rw [hmN, hmG, hmK]; omega
  by_cases hl : D.left = 0
  · obtain ⟨f1, f2⟩ := flip_off h hg (m := m) hl
    refine .inr (.inl ⟨hl, ?_⟩)
    unfold formatF
    rw [if_neg (by simp [hg]), if_neg h3, hm, f1, f2, if_neg (by omega)]
  · obtain ⟨f1, f2, f3, f4, f5⟩ := flip_on h hg (m := m) hl
    have f6 := flip_n h m
    have hfe : formatF D = (0, (flipF D m).2, some ⟨(flipF D m).2, m, log0 D m, [], false⟩) := by
      unfold formatF
      rw [if_neg (by simp [hg]), if_neg h3, hm, if_pos f1]
    have hw := (formatF_wf h hfe).1
    generalize (flipF D m).2 = D2 at f2 f3 f4 f5 f6 hfe hw
    have hb := half_in h (K := 0) (by omega)
    refine .inr (.inr ⟨⟨D2, m, log0 D m, [], false⟩, hfe, ⟨hw, rfl, f2, pick_flip hok (by rw [hmN]; omega) f5, ?_, ?_, rfl, ?_, fun x hx => by cases hx⟩, rfl, f6, f4, f3, hl, hm.symm, ?_⟩)
    · dsimp only
      rw [baseM_n f6, sizeM_n f6, hmK]
      exact (fresh_log h (by omega) (by omega) hok.2.2.2.1).same (fun j hj hj2 => by rw [f5, if_neg (by omega)]) f6
    · dsimp only
      rw [baseM_n f6, sizeM_n f6]
      rfl
    · simp [blocksE, tailOf]
    · dsimp only
      refine stG_gens (D := D) (g := 0) f6 (by omega) (by omega) (fun j hj => .inl (by rw [f5, if_neg (by omega)])) (fun i hi x hx => ?_)
      rcases parse_flip hok f5 hx with e | e
      · exact .inl e
      · subst e; exact .inr (by omega)
end Go.Proofs.YticogmpafehomaaGreatDoor

set_option linter.unusedVariables false
set_option linter.unusedSimpArgs false
namespace Go.Proofs.YticogmpafehomaaGreatDoor
open Go.RowKit Go.Maps Go.ChangeMaps Go.Proofs.YticogmpafehomaaGreatDoorW.PrintWords Go.Proofs.YticogmpafehomaaGreatDoorW.PrintMore

theorem sopen_gone {w : World} {ok : Nat → Prop} {p : Nat} {D : DM} (h : PDisk w ok p D) (hg : D.gone = true) :
    Calls Tryz.prog 24 #[.pointer (some ⟨p, 0, none⟩)] w fun e w' => e = .returned (.tuple #[.pointer none, .int .i64 61]) ∧ Below w.heap.size w w' := by
  have hB := below_alloc (Below.refl w.heap.size w) (.cells #[.int .u64 0, .int .u64 0, .int .i64 0] 29)
  have h1 := h.step (w1 := w.alloc (.cells #[.int .u64 0, .int .u64 0, .int .i64 0] 29)) (fun k _ hk => hB.block k hk)
  have he : ¬ D.ready 0 = 0 := by unfold DM.ready; rw [if_pos hg]; omega
  have hrd := read_err 0 h1 he
  rw [show D.ready 0 = 61 from by unfold DM.ready; rw [if_pos hg]] at hrd
  generalize hw2 : w.alloc (.cells #[.int .u64 0, .int .u64 0, .int .i64 0] 29) = w2 at *
  have HF := hid hB
  clear hB h1 h
  go_enter Tryz.func24, Tryz.ntmps24
  go_wp2_with fail
  go_loopw [20] (fun i wr => i = .int .i64 0 ∧ wr = w2) (fun _ _ => 0)
  case atStart => exact ⟨rfl, rfl⟩
  case round =>
    obtain ⟨rfl, rfl⟩ := hrel
    go_wp2_with fail
    refine hrd.mono ?_
    rintro e w4 ⟨rfl, rfl⟩
    go_wp2
    go_ret2
    exact ⟨rfl, HF.out⟩
theorem recsAt_got {D : DM} (hw : D.wf) {base size : Nat} {gen : Int} : ∀ (f a : Nat), ∀ r ∈ recsAt D base size gen f a, Bytes r.bytes ∧ r.bytes.length ≤ 131072
  | 0, _ => fun r hr => by simp [recsAt] at hr
  | f + 1, a => fun r hr => by
    by_cases ha : a < size
    · cases hq : readV D base ((base + size : Nat) : Int) gen a with
      | none => rw [recsAt_stop (.inr hq)] at hr; cases hr
      | some x =>
        rw [recsAt_cons ha hq] at hr
        rcases List.mem_cons.1 hr with e | e
        · subst e
          have := readV_got hw hq
          exact ⟨this.b, this.l⟩
        · exact recsAt_got hw f _ r e
    · rw [recsAt_stop (.inl ha)] at hr; cases hr
theorem recs_got {D : DM} (hw : D.wf) {base size : Nat} {gen : Int} : ∀ r ∈ recsM D base size gen, Bytes r.bytes ∧ r.bytes.length ≤ 131072 := recsAt_got hw _ _
set_option maxRecDepth 100000 in
set_option maxHeartbeats 8000000 in
theorem sopen_ok {w : World} {ok : Nat → Prop} {p : Nat} {D : DM} (h : PDisk w ok p D) (hg : D.gone = false) :
    Calls Tryz.prog 24 #[.pointer (some ⟨p, 0, none⟩)] w fun e w' => ∃ v, e = .returned (.tuple #[v, .int .i64 (openF D).1]) ∧ OpenP w w' p v (openF D).2 ∧ Below w.heap.size w w' := by
  have hlo := h.1.lo
  have hhi := h.1.hi
  have hB := below_alloc (Below.refl w.heap.size w) (.cells #[.int .u64 0, .int .u64 0, .int .i64 0] 29)
  have hy := heap_alloc_new w (.cells #[.int .u64 0, .int .u64 0, .int .i64 0] 29)
  generalize hw2 : w.alloc (.cells #[.int .u64 0, .int .u64 0, .int .i64 0] 29) = w2 at hB hy
  obtain ⟨R, hR⟩ : ∃ R, openF D = R := ⟨_, rfl⟩
  rw [hR]
  have HR := hid hR
  clear hR
  go_enter Tryz.func24, Tryz.ntmps24
  go_wp2_with fail
  go_loopw [20] (fun i wr => ∃ k : Nat, k ≤ 2 ∧ i = .int .i64 k ∧
    wr.heap[w.heap.size]? = some (.cells #[.int .u64 (pickTo D k).N, .int .u64 (pickTo D k).G, .int .i64 (pickTo D k).K] 29 (0, 0)) ∧ Below w.heap.size w wr) (fun i _ => 2 - (intOf i).toNat)
  case atStart => exact ⟨0, Nat.zero_le _, rfl, hy, hB⟩
  case round =>
    clear hy hB hw2
    obtain ⟨W, hW⟩ : ∃ W : World, W = wr := ⟨_, rfl⟩
    subst hW
    obtain ⟨k, hk, rfl, hy, hB⟩ := hrel
    by_cases hk2' : k < 2
    · have hlt : k < D.n := by omega
      have hPD := h.step (w1 := W) (fun k _ hk => hB.block k hk)
      have hrd := read_ok k hPD (ready_in hg hlt) hlt
      have hl := blk_length h.1 hlt
      have hbb := blk_bytes h.1 k
      have hmb := pickTo_N D k
      have hps : pickTo D (k + 1) = if k < 2 then better (pickTo D k) (parseM (D.blk k) k) else pickTo D k := rfl
      generalize hpk : pickTo D k = m at hmb hps hy ⊢
      generalize hpk1 : pickTo D (k + 1) = m1 at hps
      have HL := hid (And.intro hl (And.intro hps hpk1))
      clear hl hps hpk hpk1 hPD
      unfold mostN at hmb
      have hk2I : (k : Int) < 2 := by omega
      go_wp2_with fail
      refine hrd.mono ?_
      rintro e w1 ⟨rfl, hw1⟩
      have hRB : RB w1 (fun k => k = W.heap.size) (some ⟨W.heap.size, 0, none⟩) (D.blk k) := by rw [hw1]; exact RB_new _ _ _ (by rw [HL.out.1]; omega)
      have hB1 : Below W.heap.size W w1 := by rw [hw1]; exact below_alloc (Below.refl _ _) _
      clear hw1 hrd
      have hpr := parse_any (c := 64) hRB hbb (by rw [HL.out.1]; omega) (k : Int) (by omega)
      rw [HL.out.1] at hpr
      unfold parseV at hpr
      go_wp2_with fail
      refine hpr.mono ?_
      rintro e w3 ⟨rfl, hB3⟩
      have hB4 := below_step hB1 hB3
      have hy3 := (hB4.block _ (blk_lt hy)).trans hy
      have hB5 := below_step hB hB4
      clear hB1 hB3 hB4 hRB hpr hy hB
      cases hpm : parseM (D.blk k) k with
      | none =>
        have hB6 := below_step hB5 (below_alloc (Below.refl _ _) (.cells #[.int .u64 0, .int .u64 0, .int .i64 0] 29))
        have hy6 := (Below.heap_alloc w3 (.cells #[.int .u64 0, .int .u64 0, .int .i64 0] 29) _ (blk_lt hy3)).trans hy3
        have e2 : m1 = m := by rw [HL.out.2.1, if_pos hk2', hpm]; rfl
        have HF := hid (And.intro hy6 hB6)
        clear hy6 hB6 hy3 hB5 hpm
        simp only [Option.getD_none, Option.isSome_none]
        unfold manV
        dsimp only
        go_wp2
        go_roundw
        case rel => exact ⟨k + 1, by omega, by go_num, by rw [HL.out.2.2, e2]; exact HF.out.1, HF.out.2⟩
        case measure => simp [intOf]; omega
      | some x =>
        have hx := (parse_ok hpm).1
        have e2 : m1 = if m.N < x.N then x else m := by rw [HL.out.2.1, if_pos hk2', hpm]; rfl
        simp only [Option.getD_some, Option.isSome_some]
        unfold manV
        obtain ⟨xN, xG, xK⟩ := x
        obtain ⟨mN, mG, mK⟩ := m
        have hx1 := hx.1
        have hx2 := hx.2.1
        unfold mostN at hx2
        dsimp only at hx1 hx2 hy3 hmb e2 ⊢
        have hB6 := below_step hB5 (below_alloc (Below.refl _ _) (.cells #[.int .u64 xN, .int .u64 xG, .int .i64 xK] 29))
        have hy6 := (Below.heap_alloc w3 (.cells #[.int .u64 xN, .int .u64 xG, .int .i64 xK] 29) _ (blk_lt hy3)).trans hy3
        have hx6 := heap_alloc_new w3 (.cells #[.int .u64 xN, .int .u64 xG, .int .i64 xK] 29)
        have hlty := blk_lt hy3
        generalize hw6 : w3.alloc (.cells #[.int .u64 xN, .int .u64 xG, .int .i64 xK] 29) = w6 at hB6 hy6 hx6
        have x0 := cell_of_row _ _ 0 _ _ _ hx6
        have x1 := cell_of_row _ _ 1 _ _ _ hx6
        have x2 := cell_of_row _ _ 2 _ _ _ hx6
        have y0 := cell_of_row _ _ 0 _ _ _ hy6
        have y1 := cell_of_row _ _ 1 _ _ _ hy6
        have y2 := cell_of_row _ _ 2 _ _ _ hy6
        have f0 := frozen_of_row _ _ 0 _ _ hy6
        have f1 := frozen_of_row _ _ 1 _ _ hy6
        have f2 := frozen_of_row _ _ 2 _ _ hy6
        simp at x0 x1 x2 y0 y1 y2
        have hy7 := set3 hy6 (.int .u64 xN) (.int .u64 xG) (.int .i64 xK)
        have hB7 := below3 hB6 (n := w.heap.size) (Nat.le_refl _) (.int .u64 xN) (.int .u64 xG) (.int .i64 xK)
        have HF := hid (And.intro hy6 hB6)
        have HG := hid (And.intro hy7 hB7)
        clear hy6 hB6 hy7 hB7 hy3 hB5 hpm hx hx6
        by_cases hmx : mN < xN
        · rw [if_pos hmx] at e2
          have E2 := hid e2
          clear e2
          go_wp2
          go_roundw
          case rel => exact ⟨k + 1, by omega, by go_num, by rw [HL.out.2.2, E2.out]; exact HG.out.1, HG.out.2⟩
          case measure => simp [intOf]; omega
        · rw [if_neg hmx] at e2
          have E2 := hid e2
          clear e2
          go_wp2
          go_roundw
          case rel => exact ⟨k + 1, by omega, by go_num, by rw [HL.out.2.2, E2.out]; exact HF.out.1, HF.out.2⟩
          case measure => simp [intOf]; omega
    · obtain rfl : k = 2 := by omega
      rw [pickTo_all D (by omega)] at hy
      have y0 := cell_of_row _ _ 0 _ _ _ hy
      have y1 := cell_of_row _ _ 1 _ _ _ hy
      have y2 := cell_of_row _ _ 2 _ _ _ hy
      simp at y0 y1 y2
      by_cases hN0 : (pickM D).N = 0
      · have hR := HR.out
        rw [openF_none hg hN0] at hR
        subst hR
        rw [hN0] at y0
        have HB := hid hB
        clear hB hy HR
        go_wp2
        go_ret2
        exact ⟨_, rfl, rfl, HB.out⟩
      · have hmok : (pickM D).ok := by
          rcases pick_ok D with h2 | h2
          · rw [h2] at hN0; exact absurd rfl hN0
          · exact h2.1
        have hgot := recs_got h.1 (base := baseM D (pickM D).K) (size := sizeM D) (gen := (pickM D).G)
        have hlen := recsAt_len (D := D) (base := baseM D (pickM D).K) (size := sizeM D) (gen := (pickM D).G) (sizeM D) 0
        have hsz : sizeM D ≤ 4096 := by unfold sizeM; omega
        have hsome := fun E => openF_some (D := D) (E := E) hg hN0
        have hbad := openF_bad (D := D) hg hN0
        unfold openR at hsome hbad
        change (recsM D (baseM D (pickM D).K) (sizeM D) (pickM D).G).length ≤ _ at hlen
        have hPD := h.step (w1 := W.drew) (fun k _ hk => hB.block k hk)
        have hnw := hnew_fine h.1 (K := (pickM D).K) (G := (pickM D).G) ⟨hmok.2.2.2.2.1, hmok.2.2.2.2.2⟩ hmok.2.2.1
        have hba := base_any hPD (pickM D).K ⟨hmok.2.2.2.2.1, hmok.2.2.2.2.2⟩
        have hsi := size_any hPD
        have hne := hopen_ok hPD (baseM D (pickM D).K) (sizeM D) (pickM D).G hnw hg
        unfold Opened at hne
        generalize recsM D (baseM D (pickM D).K) (sizeM D) (pickM D).G = l at hgot hlen hsome hbad hne
        generalize baseM D (pickM D).K = bs at hsome hbad hba hne
        generalize sizeM D = sz at hsome hbad hsi hne hlen hsz
        have hyd : W.drew.heap[w.heap.size]? = some (.cells #[.int .u64 (pickM D).N, .int .u64 (pickM D).G, .int .i64 (pickM D).K] 29 (0, 0)) := hy
        generalize pickM D = m at hN0 hsome hba hne hyd y0 y1 y2
        obtain ⟨N, G, K⟩ := m
        dsimp only at hN0 hsome hba hne hyd y0 y1 y2
        have hN2 : (N == 0) = false := by simpa using hN0
        have HS := hid (And.intro hsome (And.intro hbad (And.intro hgot (And.intro hlen (And.intro hsz hB)))))
        clear hsome hbad hgot hlen hsz hB hmok hnw hPD hy hN0
        go_wp2_with fail
        refine wp_region_plan [] (.take 0 (.take 1 (.take 2 (.take 3 (.take 5 (.take 7 (.take 8 (.run 4 (.run 6 (.run 9 (.take 10 (.take 11 (.take 12 (.take 13 (.take 14 (.take 15 (.take 16 .done))))))))))))))))) (fun W' => W'.heap[w.heap.size]? = some (.cells #[.int .u64 N, .int .u64 G, .int .i64 K] 29 (0, 0))) (by kernel_rfl) (by kernel_rfl) (fun c a d v w h => by cases d <;> exact h) hyd ?_
        iterate 7 (apply plan_take rfl rfl; (case hy => (intro w' hS; have s1 := cell_of_row _ _ 1 _ _ _ hS; have s2 := cell_of_row _ _ 2 _ _ _ hS; simp at s1 s2; clear hS; go_simp; try exact rfl)); go_simp)
        refine plan_run_on rfl rfl (fun J hJ => ?_)
        go_simp
        refine hba.mono ?_
        rintro e W' ⟨rfl, rfl⟩
        refine hJ _ _ _ (fun _ h => h) hyd ?_
        clear hJ J
        refine plan_run_on rfl rfl (fun J hJ => ?_)
        go_simp
        refine hsi.mono ?_
        rintro e W' ⟨rfl, rfl⟩
        refine hJ _ _ _ (fun _ h => h) hyd ?_
        clear hJ J
        refine plan_run_on rfl rfl (fun J hJ => ?_)
        go_simp
        refine hne.mono ?_
        rintro e w5 ⟨hb, A, c, rfl, hhb, hh5, hR5, hB5⟩
        have hx5 := (hB5.block _ (blk_lt hyd)).trans hyd
        refine hJ _ _ _ (fun _ h => h) hx5 ?_
        clear hJ J hba hsi hne
        iterate 7 (apply plan_take rfl rfl; (case hy => (intro w' hS; clear hS; go_simp; try exact rfl)); go_simp)
        refine plan_done ?_
        have k0 := cell_of_row _ _ 0 _ _ _ hx5
        have k1 := cell_of_row _ _ 1 _ _ _ hx5
        have k2 := cell_of_row _ _ 2 _ _ _ hx5
        simp at k0 k1 k2
        clear y0 y1 y2 hyd
        have hM6 := MapV.made Tryz.prog 9 w5
        have hsz6 : (w5.alloc (.map #[] 0)).heap.size = w5.heap.size + 1 := World.size_alloc _ _
        have hltM := hM6.lt
        have hlth := hh5.lt
        have hh6 := hh5.step (Below.heap_alloc w5 (.map #[] 0) _ hlth)
        have hs7 := heap_alloc_new (w5.alloc (.map #[] 0)) (.cells #[.pointer (some ⟨p, 0, none⟩), .int .u64 N, .int .u64 G, .int .i64 K, .pointer (some ⟨hb, 0, none⟩), .map (some w5.heap.size), .nilIface] 101)
        have hM7 := hM6.block (Below.heap_alloc (w5.alloc (.map #[] 0)) (.cells #[.pointer (some ⟨p, 0, none⟩), .int .u64 N, .int .u64 G, .int .i64 K, .pointer (some ⟨hb, 0, none⟩), .map (some w5.heap.size), .nilIface] 101) _ hltM)
        have hh7 := hh6.step (Below.heap_alloc (w5.alloc (.map #[] 0)) (.cells #[.pointer (some ⟨p, 0, none⟩), .int .u64 N, .int .u64 G, .int .i64 K, .pointer (some ⟨hb, 0, none⟩), .map (some w5.heap.size), .nilIface] 101) _ (by omega))
        have hB7 : Below w5.heap.size w5 ((w5.alloc (.map #[] 0)).alloc (.cells #[.pointer (some ⟨p, 0, none⟩), .int .u64 N, .int .u64 G, .int .i64 K, .pointer (some ⟨hb, 0, none⟩), .map (some w5.heap.size), .nilIface] 101)) := below_alloc (below_alloc (Below.refl _ _) _) _
        have hF7 := Kd.F_below (Kd.F_bound (Kd.R_F hR5)) hB7
        have hz7 : ((w5.alloc (.map #[] 0)).alloc (.cells #[.pointer (some ⟨p, 0, none⟩), .int .u64 N, .int .u64 G, .int .i64 K, .pointer (some ⟨hb, 0, none⟩), .map (some w5.heap.size), .nilIface] 101)).heap.size = w5.heap.size + 2 := by simp
        rw [hsz6] at hs7
        clear hM6 hltM hh5 hh6 hR5 hx5 hsz6
        have hmm := fun W => run_makeMap (P := Tryz.prog) (w := W) (t := 97)
        go_wp2_with fail
        clear hmm
        generalize (w5.alloc (.map #[] 0)).alloc (.cells #[.pointer (some ⟨p, 0, none⟩), .int .u64 N, .int .u64 G, .int .i64 K, .pointer (some ⟨hb, 0, none⟩), .map (some w5.heap.size), .nilIface] 101) = w7 at hs7 hM7 hh7 hB7 hF7 hz7 ⊢
        have hE7 : EMap w7 (fun k => w7.heap.size ≤ k ∧ k < w7.heap.size) w5.heap.size [] := ⟨fun _ => none, hM7, fun k => rfl⟩
        obtain ⟨mb, hmb⟩ : ∃ mb, w5.heap.size = mb := ⟨_, rfl⟩
        obtain ⟨n, hnl⟩ : ∃ n, l.length = n := ⟨_, rfl⟩
        rw [hmb] at hs7 hE7 hz7 hF7 ⊢
        rw [hnl] at hF7 ⊢
        have hB8 : Below w.heap.size w w7 := below_step (below_step (below_drew HS.out.2.2.2.2.2) hB5) hB7
        have hsW : w.heap.size ≤ W.drew.heap.size := HS.out.2.2.2.2.2.size
        have hbm : hb < mb := by omega
        have h7m : mb + 2 = w7.heap.size := by omega
        have hmw : w.heap.size ≤ mb := by have := hB5.size; omega
        have HB8 := hid (And.intro hB8 (And.intro hsW (And.intro hhb (And.intro hbm hnl))))
        clear hB8 hsW hB5 hM7 hB7 hz7 hmb hlth hhb k0 k1 k2 hN2 hbm hnl
        have HI := hid (And.intro hs7 (And.intro hh7 (And.intro hE7 (And.intro hF7 (And.intro h7m hmw)))))
        clear hs7 hh7 hE7 hF7
        go_loopw [76] (fun i wr => ∃ (j : Nat) (E : Ent), j ≤ n ∧ i = .int .i64 j ∧ Hid (openE (l.take j) [] = some E ∧ SortedE E ∧ E.length ≤ j) ∧ Hid (EMap wr (fun k => w7.heap.size ≤ k ∧ k < wr.heap.size) mb E) ∧ Chg (fun k => k = mb) w7 wr) (fun i _ => n - (intOf i).toNat)
        case atStart => exact ⟨0, [], Nat.zero_le _, rfl, hid ⟨by simp [openE], by unfold SortedE Sorted keysE; simp, Nat.le_refl _⟩, hid HI.out.2.2.1, Chg.refl _ _⟩
        case round =>
          obtain ⟨j, E, hj, rfl, hop, hem, hch⟩ := hrel
          by_cases hlt : j < n
          · have hjl : j < l.length := by have := HB8.out.2.2.2.2; omega
            have hltI : (j : Int) < (n : Int) := by omega
            have hn4 : n ≤ 4096 := by have := HB8.out.2.2.2.2; have := HS.out.2.2.2.1; have := HS.out.2.2.2.2.1; omega
            have hC : KRec.C wr A l.length l := by
              rw [HB8.out.2.2.2.2]
              exact Kd.F_now (Kd.F_step HI.out.2.2.2.1 (fun k hk hlt => hch.block k hlt (fun e => by have := hk.2; omega)))
            cases A with
            | none =>
              have := C_none hC
              subst this
              exact absurd hjl (by simp)
            | some ad =>
            obtain ⟨A9, c9, hcell, hl9, hC9⟩ := rec_at hC hjl
            have hg9 := HS.out.2.2.1 l[j] (List.getElem_mem hjl)
            have hnx := fun F (hs : stepE E l[j].kind l[j].bytes = some F) => openE_next hjl hop.out.1 hs
            have hfl := fun (hs : stepE E l[j].kind l[j].bytes = none) => openE_fail hjl hop.out.1 hs
            have hsE := hop.out.2.1
            have hop2 := hid hop.out.2.2
            have hlE : E.length ≤ 65536 := by have := hop.out.2.2; have := HS.out.2.2.2.1; have := HS.out.2.2.2.2.1; omega
            generalize l[j] = r at hcell hl9 hC9 hg9 hnx hfl
            have hr9 := heap_alloc_new wr (.cells #[.int .u64 r.gen, .int .i64 r.at_, .int .i64 r.kind, .slice A9 r.bytes.length c9] 117)
            have hB9 := below_alloc (Below.refl wr.heap.size wr) (.cells #[.int .u64 r.gen, .int .i64 r.at_, .int .i64 r.kind, .slice A9 r.bytes.length c9] 117)
            have hrd := read_any (c := c9) (Kd.C_below hC9 hB9) hg9.1 (by have := hg9.2; omega)
            have e1 := stepE_1 E r.bytes
            have e2 := stepE_2 E r.bytes
            have ex := fun h1 h2 => stepE_x E (kd := r.kind) r.bytes h1 h2
            have hks := keyR_size r.bytes
            obtain ⟨s0, hs0⟩ : ∃ s, (⟨r.bytes, 0⟩ : St) = s := ⟨_, rfl⟩
            rw [hs0] at hrd
            have hkey : s0.out (oText 40 s0.b) (strOfNums []) = keyR r.bytes := by rw [← hs0]; rfl
            have hbeh : s0.took (oText 40 s0.b) = behR r.bytes := by rw [← hs0]; rfl
            have hdat : (behR r.bytes).out (oRaw 131072 (behR r.bytes).b) [] = datR r.bytes := rfl
            have hend : (behR r.bytes).took (oRaw 131072 (behR r.bytes).b) = endR r.bytes := rfl
            generalize keyR r.bytes = key at e1 e2 hks hkey
            generalize behR r.bytes = s1 at e2 hbeh hdat hend
            generalize datR r.bytes = dat at e1 hdat
            generalize endR r.bytes = s2 at e1 hend
            have hblk : SBlk wr (mb + 1) p hb mb ⟨N, G, K⟩ .nilIface := (hch.block _ (by omega) (by omega)).trans HI.out.1
            have hsr := hch.size
            have HN := hid (And.intro hnx (And.intro hfl (And.intro e1 (And.intro e2 (And.intro ex (And.intro hks (And.intro hsE (And.intro hlE hch))))))))
            clear hnx hfl e1 e2 ex hks hsE hlE hch hs0 hC hop hg9 hC9 hl9
            unfold SR.cells at hcell
            go_wp2_with (refine wpList_load_addr rfl 117 (.tmp 78) rfl (ad.add (j * 4)) rfl [.int .u64 r.gen, .int .i64 r.at_, .int .i64 r.kind, .slice A9 r.bytes.length c9] _ hcell Tryz.underlying117 rfl (by kernel_rfl) ?_)
            clear hcell
            obtain ⟨kd, hkd⟩ : ∃ kd, r.kind = kd := ⟨_, rfl⟩
            go_wp2_with fail
            generalize wr.alloc (.cells #[.int .u64 r.gen, .int .i64 r.at_, .int .i64 r.kind, .slice A9 r.bytes.length c9] 117) = w9 at hr9 hB9 hrd ⊢
            refine hrd.mono ?_
            rintro e w10 ⟨q, rfl, hP10, hB10⟩
            have hr10 := (hB10.block _ (blk_lt hr9)).trans hr9
            have hq : w9.heap.size ≤ q := by obtain ⟨_, h, _⟩ := hP10; exact h.okp.1
            have hw9 := blk_lt hr9
            have hB10' := below_step hB9 hB10
            clear hrd hr9 hB9 hB10
            go_wp2_with fail
            refine (mText_any 40 hP10 (fun k hk => hk.2)).mono ?_
            rintro e w11 ⟨u, rfl, rfl, hP11, hC11⟩
            rw [hbeh] at hP11
            simp only [hkey]
            have hr11 := (hC11.block _ (blk_lt hr10) (by omega)).trans hr10
            have hB11 := hB10'.trans (hC11.below_ (B := wr.heap.size) hB10'.size (fun k hk => by omega))
            have hs1011 := hC11.size
            have k2 := cell_of_row _ _ 2 _ _ _ hr11
            simp at k2
            rw [hkd] at k2
            have hblk11 : SBlk w11 (mb + 1) p hb mb ⟨N, G, K⟩ .nilIface := (hB11.block _ hblk.lt).trans hblk
            have hem11 : EMap w11 (fun k => w7.heap.size ≤ k ∧ k < wr.heap.size) mb E := hem.out.step (hB11.block _ hem.out.lt) (fun k hk hlt => hB11.block k hlt)
            have hok10 : ∀ k, w9.heap.size ≤ k ∧ k < w10.heap.size → k < w11.heap.size := fun k hk => Nat.lt_of_lt_of_le hk.2 hs1011
            have HH := hid (And.intro hem11 (And.intro hB11 hB10'))
            clear hr10 hr11 hP10 hC11 hbeh hkey hem hblk hB11 hem11 hB10'
            by_cases hk1 : kd = 1
            · subst hk1
              have hblk11d : SBlk w11.drew (mb + 1) p hb mb ⟨N, G, K⟩ .nilIface := hblk11
              have hP11d : PSt w11.drew (fun k => w9.heap.size ≤ k ∧ k < w10.heap.size) q s1 := hP11.step (fun _ _ _ => rfl)
              go_wp2_with fail
              refine wp_region_plan [7] (.take 0 (.take 1 (.take 2 (.take 3 (.take 4 (.take 5 (.run 6 (.tail 7 .done)))))))) (fun W' => SBlk W' (mb + 1) p hb mb ⟨N, G, K⟩ .nilIface) (by kernel_rfl) (by kernel_rfl) (fun c a d v w h => by cases d <;> exact h) hblk11d ?_
              iterate 6 (apply plan_take rfl rfl; (case hy => (intro w' hS; have s0 := hS.c5; clear hS; go_simp; try exact rfl)); go_simp)
              refine plan_run_on rfl rfl (fun J hJ => ?_)
              go_simp
              refine (mRaw_any 131072 hP11d hok10).mono ?_
              rintro e w12 ⟨u, rfl, ⟨A2, c2, hu, hR12⟩, hP12, hC12⟩
              rw [hend] at hP12
              rw [hdat] at hR12 hu
              subst hu
              have hblk12 : SBlk w12 (mb + 1) p hb mb ⟨N, G, K⟩ .nilIface := (hC12.block _ hblk11d.lt (by omega)).trans hblk11d
              have hB12 : Below wr.heap.size wr w12 := HH.out.2.1.drew.trans (hC12.below_ (B := wr.heap.size) HH.out.2.1.size (fun k hk => by omega))
              have hem12 : EMap w12 (fun k => w7.heap.size ≤ k ∧ k < wr.heap.size) mb E := HH.out.1.step (hC12.block _ HH.out.1.lt (by omega)) (fun k hk hlt => hC12.block k hlt (by omega))
              obtain ⟨A3, c3, he3, hle3, _⟩ := Kd.R_reads hR12
              injection he3 with _ _ hc3
              subst hc3
              obtain ⟨w13, hrun, hem13, hg13⟩ := hem12.put_run HN.out.2.2.2.2.2.2.1 HN.out.2.2.2.2.2.2.2.1 (k := key) (by have := HN.out.2.2.2.2.2.1; omega) (fun k hk => by omega) (okv := fun k => w11.drew.heap.size ≤ k ∧ k < w12.heap.size) (fun k hk => by have := hk.1; have := HH.out.2.1.size; have hsd : w11.drew.heap.size = w11.heap.size := rfl; omega) (Kd.F_bound (R_RB hR12).2) (c := c2) hle3
              have hs1213 := hg13.size
              have hsd : w11.drew.heap.size = w11.heap.size := rfl
              have hs11 := HH.out.2.1.size
              have hs12 := hC12.size
              have hP13 : PSt w13 (fun k => w9.heap.size ≤ k ∧ k < w10.heap.size) q s2 := hP12.step (fun k hk hlt => hg13.block k hlt (by intro e; injection e with e; omega))
              have hch13 : Chg (fun k => k = mb) w7 w13 := (HN.out.2.2.2.2.2.2.2.2.same hB12).grown hg13 (fun k hk => by injection hk with hk; exact .inl hk.symm)
              have hfb : Below w.heap.size w w13 := HB8.out.1.trans (hch13.below_ (B := w.heap.size) HB8.out.1.size (fun k hk => by omega))
              have HK := hid (And.intro (hid (hem13.mono (ok' := fun k => w7.heap.size ≤ k ∧ k < w13.heap.size) (fun k hk => by omega))) (And.intro hch13 hfb))
              have hdn := done_any hP13
              have hky := keyed_any (w := w13) key
              refine hJ _ _ _ (fun _ h => h) hblk12 ?_
              clear hJ J
              go_simp
              refine plan_tail_on rfl rfl (fun J hJ => ?_)
              refine step_mapUpdate (mv := .map (some mb)) (kv := .string key) (vv := .slice A2 dat.length c2) rfl rfl rfl (by go_simp) hrun ?_
              refine hJ _ _ ?_
              clear hJ J
              go_simp
              refine plan_done ?_
              clear hrun hem13 hg13 hs1213 hP13 hch13 hfb hP12 hC12 hblk12 hB12 hem12 hR12 hle3 hP11d hblk11d hblk11 hP11 k2
              by_cases hd0 : (s2.done = 0 ∧ keyedB key)
              · have hst : stepE E r.kind r.bytes = some (putE key dat E) := by rw [hkd, HN.out.2.2.1, if_pos hd0]
                have hrel := HN.out.1 _ hst
                have hso := stepE_ok hst HN.out.2.2.2.2.2.2.1
                have hopE := hid (And.intro hrel (And.intro hso.1 (show (putE key dat E).length ≤ j + 1 by have := hop2.out; have := putE_len key dat E; omega)))
                have hdn0 := hd0.1
                rw [hdn0] at hdn
                rw [decide_eq_true hd0.2] at hky
                clear hst hrel hso hd0 hdn0
                go_wp2_with (first | (go_at_call 71; refine hdn.mono ?_; rintro e w' ⟨rfl, rfl⟩) | (go_at_call 51; refine hky.mono ?_; rintro e w' ⟨rfl, rfl⟩))
                go_roundw
                case rel => exact ⟨j + 1, _, by omega, by go_num, hopE, HK.out.1, HK.out.2.1⟩
                case measure => simp [intOf]; omega
              · have hR := HR.out
                rw [HS.out.2.1 (HN.out.2.1 (by rw [hkd, HN.out.2.2.1, if_neg hd0]))] at hR
                subst hR
                clear HR
                by_cases hdz : s2.done = 0
                · rw [hdz] at hdn
                  rw [decide_eq_false (fun hk => hd0 ⟨hdz, hk⟩)] at hky
                  clear hd0 hdz
                  go_wp2_with (first | (go_at_call 71; refine hdn.mono ?_; rintro e w' ⟨rfl, rfl⟩) | (go_at_call 51; refine hky.mono ?_; rintro e w' ⟨rfl, rfl⟩))
                  go_ret2
                  exact ⟨_, rfl, rfl, HK.out.2.2⟩
                · have hdz2 : (s2.done != 0) = true := by simpa using hdz
                  generalize s2.done = dn at hdn hdz2
                  clear hd0 hdz
                  go_wp2_with (first | (go_at_call 71; refine hdn.mono ?_; rintro e w' ⟨rfl, rfl⟩) | (go_at_call 51; refine hky.mono ?_; rintro e w' ⟨rfl, rfl⟩))
                  go_ret2
                  exact ⟨_, rfl, rfl, HK.out.2.2⟩
            · by_cases hk2 : kd = 2
              · subst hk2
                have c5 := hblk11.c5
                obtain ⟨w13, hrun, hem13, hg13⟩ := HH.out.1.del_run HN.out.2.2.2.2.2.2.1 (k := key) (by have := HN.out.2.2.2.2.2.1; omega) (fun k hk => by omega)
                have hs1213 := hg13.size
                have hs11 := HH.out.2.1.size
                have hs910 := HH.out.2.2.size
                have hP13 : PSt w13 (fun k => w9.heap.size ≤ k ∧ k < w10.heap.size) q s1 := hP11.step (fun k hk hlt => hg13.block k hlt (by intro e; injection e with e; omega))
                have hch13 : Chg (fun k => k = mb) w7 w13 := (HN.out.2.2.2.2.2.2.2.2.same HH.out.2.1).grown hg13 (fun k hk => by injection hk with hk; exact .inl hk.symm)
                have hfb : Below w.heap.size w w13 := HB8.out.1.trans (hch13.below_ (B := w.heap.size) HB8.out.1.size (fun k hk => by omega))
                have HK := hid (And.intro (hid (hem13.mono (ok' := fun k => w7.heap.size ≤ k ∧ k < w13.heap.size) (fun k hk => by omega))) (And.intro hch13 hfb))
                have hdn := done_any hP13
                have hky := keyed_any (w := w13) key
                clear hem13 hg13 hs1213 hP13 hch13 hfb hblk11 hP11
                by_cases hd0 : (s1.done = 0 ∧ keyedB key)
                · have hst : stepE E r.kind r.bytes = some (delE key E) := by rw [hkd, HN.out.2.2.2.1, if_pos hd0]
                  have hrel := HN.out.1 _ hst
                  have hso := stepE_ok hst HN.out.2.2.2.2.2.2.1
                  have hopE := hid (And.intro hrel (And.intro hso.1 (show (delE key E).length ≤ j + 1 by have := hop2.out; have := delE_len key E; omega)))
                  have hdn0 := hd0.1
                  rw [hdn0] at hdn
                  rw [decide_eq_true hd0.2] at hky
                  clear hst hrel hso hd0 hdn0
                  go_wp2_with (first | (go_at_call 71; refine hdn.mono ?_; rintro e w' ⟨rfl, rfl⟩) | (go_at_call 51; refine hky.mono ?_; rintro e w' ⟨rfl, rfl⟩))
                  go_roundw
                  case rel => exact ⟨j + 1, _, by omega, by go_num, hopE, HK.out.1, HK.out.2.1⟩
                  case measure => simp [intOf]; omega
                · have hR := HR.out
                  rw [HS.out.2.1 (HN.out.2.1 (by rw [hkd, HN.out.2.2.2.1, if_neg hd0]))] at hR
                  subst hR
                  clear HR
                  by_cases hdz : s1.done = 0
                  · rw [hdz] at hdn
                    rw [decide_eq_false (fun hk => hd0 ⟨hdz, hk⟩)] at hky
                    clear hd0 hdz
                    go_wp2_with (first | (go_at_call 71; refine hdn.mono ?_; rintro e w' ⟨rfl, rfl⟩) | (go_at_call 51; refine hky.mono ?_; rintro e w' ⟨rfl, rfl⟩))
                    go_ret2
                    exact ⟨_, rfl, rfl, HK.out.2.2⟩
                  · have hdz2 : (s1.done != 0) = true := by simpa using hdz
                    generalize s1.done = dn at hdn hdz2
                    clear hd0 hdz
                    go_wp2_with (first | (go_at_call 71; refine hdn.mono ?_; rintro e w' ⟨rfl, rfl⟩) | (go_at_call 51; refine hky.mono ?_; rintro e w' ⟨rfl, rfl⟩))
                    go_ret2
                    exact ⟨_, rfl, rfl, HK.out.2.2⟩
              · have n1 : (kd == 1) = false := by simpa using hk1
                have n2 : (kd == 2) = false := by simpa using hk2
                have hR := HR.out
                rw [HS.out.2.1 (HN.out.2.1 (HN.out.2.2.2.2.1 (by rw [hkd]; exact hk1) (by rw [hkd]; exact hk2)))] at hR
                subst hR
                have hfb : Below w.heap.size w w11 := (HB8.out.1.trans (HN.out.2.2.2.2.2.2.2.2.below_ (B := w.heap.size) HB8.out.1.size (fun k hk => by omega))).trans (HH.out.2.1.mono (by have := HB8.out.1.size; omega))
                have HF := hid hfb
                clear hfb HR hk1 hk2
                go_wp2
                go_ret2
                exact ⟨_, rfl, rfl, HF.out⟩
          · obtain rfl : j = n := by omega
            have hjl : j = l.length := HB8.out.2.2.2.2.symm
            have hopl : openE l [] = some E := by have := hop.out.1; rwa [hjl, List.take_length] at this
            have hR := HR.out
            rw [HS.out.1 E hopl] at hR
            subst hR
            have hsr := hch.size
            have hfin : PSto wr (fun k => w.heap.size ≤ k) (mb + 1) p ⟨D, ⟨N, G, K⟩, ⟨(bs : Int), (sz : Int), G, (tailOf l : Int), (l.length : Int)⟩, E, false⟩ := by
              obtain ⟨hs7, hh7, hE7, hF7, _, _⟩ := HI.out
              obtain ⟨hB8, hsW, hhb, hbm, hnl⟩ := HB8.out
              refine ⟨fun k => w7.heap.size ≤ k ∧ k < wr.heap.size, hb, mb, .nilIface, Nat.le_succ_of_le hmw, Nat.le_trans hsW hhb, hmw, fun k hk => ⟨by omega, hk.2, by omega, by omega, by omega⟩, ?_, ?_, hem.out, rfl, fun db e => by cases e⟩
              · exact (hch.block _ (by omega) (by omega)).trans hs7
              · exact hh7.step (hch.block _ (by omega) (by omega))
            have hfb : Below w.heap.size w wr := HB8.out.1.trans (hch.below_ (B := w.heap.size) HB8.out.1.size (fun k hk => by omega))
            have HF := hid (And.intro hfin hfb)
            clear hfin hfb hch HR HI hop hem hopl
            go_wp2
            go_ret2
            exact ⟨_, rfl, ⟨_, rfl, HF.out.1⟩, HF.out.2⟩
end Go.Proofs.YticogmpafehomaaGreatDoor

set_option linter.unusedVariables false
set_option linter.unusedSimpArgs false
namespace Go.Proofs.YticogmpafehomaaGreatDoor
open Go.RowKit Go.Maps Go.ChangeMaps Go.Sort Go.Shelf Go.Proofs.YticogmpafehomaaGreatDoorW.PrintWords Go.Proofs.YticogmpafehomaaGreatDoorW.PrintMore

theorem Set_any {w : World} {A : Option Addr} {c : Nat} {l : List ByteArray} (h : KS.C w A l.length l) (hl : l.length * 16 ≤ 140737488355328) :
  Calls Tryz.prog 72 #[.slice A l.length c] w fun e w' => ∃ A' c', e = .returned (.slice A' (setS l).length c') ∧ KS.R 9 w' w.heap.size (fun k => w.heap.size ≤ k) (.slice A' (setS l).length c') (setS l) ∧ Below w.heap.size w w' := by
  have hs := set_any (c := c) h hl
  go_enter Tryz.func72, Tryz.ntmps72
  go_wp2_with fail
  refine hs.mono ?_
  rintro e w1 ⟨A', c', rfl, hR, hb⟩
  go_wp2
  go_ret
  exact ⟨A', c', rfl, hR, hb⟩
/-- slices.Collect(maps.Keys(m)): some order of the keys. -/
theorem collect_keys {H : Type} (b nn : Nat) (D0 : DataW H) (R : Value → Option (DataW H × List MemPlace)) (w : World) (hown : w.ownsMap Tryz.prog 9 R b nn D0) (hmax : Go.Maps.size D0 ≤ maxLen) (hbytes : Go.Maps.size D0 * 16 ≤ 140737488355328) :
    Calls Tryz.prog 73 #[.func (.func 120) #[] #[.pointer (some ⟨w.heap.size, 0, none⟩)]] (w.alloc (.cells #[.map (some b)] 97)) fun e w' => ∃ (v : Value) (ss : List (List UInt8)), e = .returned v ∧ ss.Perm (strKeys D0) ∧
      w'.ownsRow (w.alloc (.cells #[.map (some b)] 97)).heap.size 9 1 v ss.length (ss.map encStr) ∧ (v = .slice none 0 0 ↔ ss = []) ∧ Below (w.alloc (.cells #[.map (some b)] 97)).heap.size (w.alloc (.cells #[.map (some b)] 97)) w' := by
  have hbl := hown.lt
  have hseq : SeqGives Fence.wide 2 Tryz.prog 120 #[.pointer (some ⟨w.heap.size, 0, none⟩)] encStr (fun ss => ss.Perm (strKeys D0)) (Go.Maps.size D0) (w.alloc (.cells #[.map (some b)] 97)) :=
    AnyZ.keys_gives (ρ := Tryz.keys74_ren) { Tryz.keys74 with } Fence.wide _ trivial rfl (by omega) w.heap.size b nn D0 _ (by simp) (by simp) (by
      obtain ⟨es, clock, hb, Ft, hs, hD⟩ := hown
      exact ⟨es, clock, (Below.heap_alloc _ _ b hbl).trans hb, Ft, hs, hD⟩)
  exact (callsIn_wide (n := 4)).1 (AnyZ.collect_in (ρ := Tryz.sorted148_ren) { Tryz.sorted148 with } Fence.wide 4 trivial trivial rfl (by omega) 120 #[.pointer (some ⟨w.heap.size, 0, none⟩)] trivial (enters_of Tryz.func120 (by kernel_rfl) rfl) _ _ hmax hbytes _ hseq)
set_option maxRecDepth 100000 in
set_option maxHeartbeats 2000000 in
theorem skeys_any {w : World} {ok : Nat → Prop} {p pd : Nat} {S : SM} (h : PSto w ok p pd S) (hs : SortedE S.E) (hl : S.E.length ≤ 65536) :
    Calls Tryz.prog 27 #[.pointer (some ⟨p, 0, none⟩)] w fun e w' => ∃ A c, e = .returned (.slice A S.E.length c) ∧ KS.R 9 w' w.heap.size (fun k => w.heap.size ≤ k) (.slice A S.E.length c) (keysE S.E) ∧ Below w.heap.size w w' := by
  obtain ⟨okr, hb, mb, dv, h⟩ := h
  have c5 := h.blk.c5
  obtain ⟨f, ⟨D0, hown, h1, h2⟩, hr⟩ := h.ent
  have hki := keys_iff hr
  have hmsz := MapV.size hown Tryz.underlying9 h1 hs hki
  have hlk : (keysE S.E).length = S.E.length := by unfold keysE; simp
  rw [hlk] at hmsz
  have hk := (callsIn_wide (n := 5)).1 (Tryz.maps_Keys_74 (some mb) w)
  have hso := collect_keys mb S.E.length D0 heldV w hown (by rw [hmsz]; unfold maxLen; omega) (by rw [hmsz]; omega)
  have hkeys := fun (ss : List BL) (hp : ss.Perm (strKeys D0)) => MapV.keys hown Tryz.underlying9 h1 hp hs hki
  have HK := hid hkeys
  have HLK := hid hlk
  clear hkeys hown h1 h2 hr hki hmsz hlk h
  have ba := below_alloc (Below.refl w.heap.size w) (.cells #[.map (some mb)] 97)
  generalize S.E.length = n at hl HLK
  go_enter Tryz.func27, Tryz.ntmps27
  go_wp2_with fail
  refine hk.mono ?_
  rintro e w6 ⟨rfl, rfl⟩
  clear hk
  go_wp2_with fail
  refine hso.mono ?_
  rintro e w7 ⟨u, ss, rfl, hp, hrow, _, hb7⟩
  have hkk := HK.out ss hp
  have hlen : (ss.map tx).length = n := by
    have := congrArg List.length hkk
    rw [List.length_mergeSort, List.length_map, HLK.out] at this
    rw [List.length_map, this]
  have hset : setS (ss.map tx) = keysE S.E := setS_eq hs (fun x => by
    have h1 : bl x ∈ (keysE S.E).map bl ↔ bl x ∈ ss := by rw [← hkk, List.mem_mergeSort]
    rw [mem_map_bl] at h1
    rw [h1, ← mem_map_bl (l := ss.map tx), List.map_map, show (bl ∘ tx) = id from funext bl_tx, List.map_id])
  have hR : KS.R 9 w7 (w.alloc (.cells #[.map (some mb)] 97)).heap.size (fun _ => True) u (ss.map tx) := Kd.R_of_own (by rw [encs_tx, List.length_map]; exact hrow) (fun _ _ => trivial)
  obtain ⟨A, c, rfl, hR'⟩ := KS_own hR
  have hst := Set_any (c := c) (Kd.F_now (Kd.R_F hR')) (by rw [hlen]; omega)
  rw [hset, HLK.out, hlen] at hst
  have hB7 := below_step ba hb7
  rw [hlen]
  clear hso hrow hR hR' ba hb7 hkk hp HK hset hlen
  go_wp2_with fail
  refine hst.mono ?_
  rintro e w8 ⟨A', c', rfl, hR8, hb8⟩
  have hsz := hB7.size
  have HF := hid (And.intro (Kd.R_lower (Kd.R_mono hR8 (ok' := fun k => w.heap.size ≤ k) (fun k hk => Nat.le_trans hsz hk)) hsz) (below_step hB7 hb8))
  clear hst hR8 hB7 hb8 HLK
  go_wp2
  go_ret
  exact ⟨A', c', rfl, HF.out⟩
/-- Entries as memory has them. -/
abbrev KEnt : Kd (ByteArray × List Int) := Kd.pair Kd.string (Kd.slice 5 KB)
theorem KEnt_M {w : World} {base : Nat} {ok : Nat → Prop} {x : ByteArray × List Int} {A : Option Addr} {c : Nat} (h : KB.R 5 w base ok (.slice A x.2.length c) x.2) : KEnt.M w base ok x [.string x.1, .slice A x.2.length c] :=
  ⟨[.string x.1], [.slice A x.2.length c], rfl, rfl, _, rfl, h⟩
theorem info_Ent : (Tryz.prog.info? 122).map (fun i => (i.zero, i.size, i.bytes)) = some (some (.agg #[.string ⟨#[]⟩, .slice none 0 0]), 2, 40) := by kernel_rfl
set_option maxRecDepth 100000 in
set_option maxHeartbeats 2000000 in
theorem sstate_any {w : World} {ok : Nat → Prop} {p pd : Nat} {S : SM} (h : PSto w ok p pd S) (hwf : S.wf) (hl : S.E.length ≤ 65536) :
    Calls Tryz.prog 26 #[.pointer (some ⟨p, 0, none⟩)] w fun e w' => ∃ A c, e = .returned (.slice A S.E.length c) ∧ KEnt.R 122 w' w.heap.size (fun k => w.heap.size ≤ k) (.slice A S.E.length c) S.E ∧ Below w.heap.size w w' := by
  have hk := skeys_any h hwf.sorted hl
  have hlk : (keysE S.E).length = S.E.length := by unfold keysE; simp
  obtain ⟨n, hn⟩ : ∃ n, S.E.length = n := ⟨_, rfl⟩
  rw [hn] at hk hl hlk ⊢
  have HN := hid hn
  have HLK := hid hlk
  clear hn hlk
  go_enter Tryz.func26, Tryz.ntmps26
  go_wp2_with fail
  refine hk.mono ?_
  rintro e w1 ⟨A, c, rfl, hR1, hB1⟩
  have hKF := Kd.F_bound (Kd.R_F hR1)
  have hP1 := h.below hB1
  have hs1 := hB1.size
  have HI := hid (And.intro hKF (And.intro hP1 hB1))
  clear hR1 hk hKF hP1 hB1
  go_wp2_with fail
  go_loopw [3, 11] (fun v i wr => ∃ j : Nat, j ≤ n ∧ i = .int .i64 j ∧ KEnt.R 122 wr w.heap.size (fun k => w1.heap.size ≤ k) v (S.E.take j) ∧ Below w1.heap.size w1 wr) (fun _ i _ => n - (intOf i).toNat)
  case atStart => exact ⟨0, Nat.zero_le _, rfl, Kd.R_nil _ _ _ _ _, Below.refl _ _⟩
  case round =>
    obtain ⟨j, hj, rfl, hR, hB⟩ := hrel
    by_cases hlt : j < n
    · have hltI : (j : Int) < (n : Int) := by omega
      obtain ⟨A0, c0, hv0⟩ := Kd.R_slice hR
      have hlj : (S.E.take j).length = j := by rw [List.length_take, HN.out]; omega
      rw [hlj] at hv0
      subst hv0
      have hjE : j < S.E.length := by rw [HN.out]; exact hlt
      have hjK : j < (keysE S.E).length := by rw [HLK.out]; exact hlt
      have hC : KS.C wr A n (keysE S.E) := Kd.F_now (Kd.F_below HI.out.1 hB)
      cases A with
      | none =>
        have := hC.2.2 (by omega)
        obtain ⟨ad, e, _⟩ := this
        cases e
      | some ad =>
      have hcell := KS_at hC hjK
      have hkk : (keysE S.E)[j] = S.E[j].1 := by simp [keysE]
      rw [hkk] at hcell
      have hlook : look S.E S.E[j].1 = some S.E[j].2 := mem_look hwf.sorted (List.getElem_mem hjE)
      have hmem := hwf.ent _ (List.getElem_mem hjE)
      have hks := hmem.1.2
      have hget := sget_any (HI.out.2.1.below hB) hwf S.E[j].1 (by omega)
      rw [hlook] at hget
      simp only [Option.getD_some, Option.isSome_some] at hget
      have htk := List.take_append_getElem hjE
      generalize hx : S.E[j] = x at *
      obtain ⟨xk, xv⟩ := x
      dsimp only at hcell hget
      have HT := hid htk
      clear hlook hmem htk hC hkk hx
      go_wp2_with fail
      refine hget.mono ?_
      rintro e w2 ⟨A2, c2, rfl, hR2, hB2⟩
      have hsr := hB.size
      have hRr := Kd.R_below hR hB2
      have hBw := below_step hB hB2
      have hs2 := hB2.size
      have hown : ∀ k, (Value.slice A0 j c0).ownBlock = some k → k < wr.heap.size ∧ w1.heap.size ≤ k := fun k hk => by
        obtain ⟨inner, ho⟩ := Kd.R_own hR
        exact ⟨own_lt ho k hk, hR.1 k hk⟩
      have hBw0 := HI.out.2.2.trans (hBw.mono hs1)
      generalize hEj : S.E.take j = Ej at hR hRr hown hlj HT ⊢
      have HB := hid (And.intro hBw hEj)
      clear hBw hR hB hEj hcell hget
      go_wp2_with (at_builtin; refine Kd.R_append KEnt (w0 := w) (W := w2) w.heap.size rfl (.tmp 21) (.tmp 25) 55 122 (.agg #[.string ⟨#[]⟩, .slice none 0 0]) 40 rfl Tryz.underlying55 info_Ent rfl (by decide) (by decide) (.slice A0 j c0) Ej (xk, xv) [.string xk, .slice A2 xv.length c2] (fun k => w1.heap.size ≤ k) (fun k => wr.heap.size ≤ k) rfl rfl ?hp ?hokp ?hfresh hRr hBw0 hBw0.size ?hl9 ?_)
      case hp => exact KEnt_M (Kd.R_lower hR2 (by omega))
      case hokp => exact fun k hk => ⟨by omega, fun e => by have := (hown k e.symm).1; omega⟩
      case hfresh => exact fun k hk => by omega
      case hl9 => rw [hlj]; omega
      intro v1 w4 hR4 hB4 hg4 hat4
      have hR5 : KEnt.R 122 w4 w.heap.size (fun k => w1.heap.size ≤ k) v1 (S.E.take (j + 1)) := by rw [← HT.out]; exact hR4
      have hB5 : Below w1.heap.size w1 w4 := HB.out.1.grown hg4 HB.out.1.size (fun k hk => by have := hown k hk; omega)
      clear hR4 hB4 hg4 hat4 hR2 hB2 hRr hown hBw0
      go_wp2
      go_roundw
      case rel => exact ⟨j + 1, by omega, by go_num, hR5, hB5⟩
      case measure => simp [intOf]; omega
    · obtain rfl : j = n := by omega
      rw [← HN.out, List.take_length] at hR
      obtain ⟨A', c', rfl⟩ := Kd.R_slice hR
      have HF := hid (And.intro (Kd.R_mono hR (ok' := fun k => w.heap.size ≤ k) (fun k hk => Nat.le_trans hs1 hk)) (HI.out.2.2.trans (hB.mono hs1)))
      clear hR hB
      go_wp2
      go_ret
      rw [HN.out] at HF ⊢
      exact ⟨A', c', rfl, HF.out⟩
end Go.Proofs.YticogmpafehomaaGreatDoor

set_option linter.unusedVariables false
set_option linter.unusedSimpArgs false
namespace Go.Proofs.YticogmpafehomaaGreatDoor
open Go.RowKit Go.Proofs.YticogmpafehomaaGreatDoorW.PrintWords Go.Proofs.YticogmpafehomaaGreatDoorW.PrintMore

def kA : ByteArray := ⟨#[97]⟩
def kB : ByteArray := ⟨#[98]⟩
def orS : Option SM → SM
  | some S => S
  | none => ⟨DM.new 16, ⟨0, 0, 0⟩, ⟨0, 0, 0, 0, 0⟩, [], true⟩
def live0 : SM := orS (formatF (DM.new 16)).2.2
def liveS : Nat → SM
  | 0 => live0
  | i + 1 => (putF (liveS i) kA [i, 0, 0]).2
def Z300 : List Int := List.replicate 300 0
set_option maxRecDepth 100000 in
theorem live_f0 : (formatF (DM.new 16)).1 = 0 ∧ (formatF (DM.new 16)).2.2.isSome = true ∧ sizeM live0.D = 7 ∧ live0.dead = false ∧ live0.D.ws.length ≤ 100 := by decide +kernel
set_option maxRecDepth 100000 in
theorem live_f1 : ∀ i, i < 8 → (putF (liveS i) kA [(i : Nat), 0, 0]).1 = 0 ∧ (liveS i).dead = false ∧ (liveS i).D.ws.length ≤ 100 := by decide +kernel
set_option maxRecDepth 100000 in
theorem live_f2 : (liveS 8).dead = false ∧ (liveS 8).D.ws.length ≤ 100 ∧ (liveS 8).m.N = 2 ∧ (liveS 8).m.G = 2 ∧ (liveS 8).m.K = 1 ∧ look (liveS 8).E kA = some [7, 0, 0] ∧ (liveS 8).H.tail = 1 ∧ (putF (liveS 8) kB Z300).1 = 63 := by decide +kernel
end Go.Proofs.YticogmpafehomaaGreatDoor

set_option linter.unusedVariables false
set_option linter.unusedSimpArgs false
namespace Go.Proofs.YticogmpafehomaaGreatDoor
open Go.RowKit Go.Maps Go.Proofs.YticogmpafehomaaGreatDoorW.PrintWords Go.Proofs.YticogmpafehomaaGreatDoorW.PrintMore

theorem SysOut.same {w w' : World} {okd ok : Nat → Prop} {p pd : Nat} {S : SM} (hd : PDisk w okd pd S.D) (h : PSto w ok p pd S) (hap : apart okd ok) (hB : Below w.heap.size w w') : SysOut w w' okd ok p pd S :=
  ⟨okd, ok, hd.step (fun j _ hj => hB.block j hj), h.below hB, hap, fun j hj => .inl hj, fun j hj => .inl hj⟩
theorem SysOut.later {w w1 w2 : World} {okd ok ok' : Nat → Prop} {p pd : Nat} {S : SM} (h : SysOut w1 w2 okd ok' p pd S) (hs : w.heap.size ≤ w1.heap.size) (ho : ∀ j, ok' j → orNew ok w j) : SysOut w w2 okd ok p pd S := by
  obtain ⟨a, b, h1, h2, h3, h4, h5⟩ := h
  exact ⟨a, b, h1, h2, h3, fun j hj => (h4 j hj).elim .inl (fun e => .inr (Nat.le_trans hs e)), fun j hj => (h5 j hj).elim (ho j) (fun e => .inr (Nat.le_trans hs e))⟩
set_option maxRecDepth 100000 in
set_option maxHeartbeats 8000000 in
theorem sput_alive {w : World} {okd ok okb : Nat → Prop} {p pd : Nat} {S : SM} {A : Option Addr} {c : Nat} {k : ByteArray} {v : List Int} (hd : PDisk w okd pd S.D) (h : PSto w ok p pd S) (hwf : S.wf) (hm : Room S.D) (hdead : S.dead = false)
    (hod : ∀ j, okd j → j < w.heap.size) (hos : ∀ j, ok j → j < w.heap.size) (hap : apart okd ok) (hF : RB w okb A v) (hc : v.length ≤ c) (hv : Bytes v) (hks : k.size ≤ 9223372036854775807) :
    Calls Tryz.prog 22 #[.pointer (some ⟨p, 0, none⟩), .string k, .slice A v.length c] w fun e w' => e = .returned (.int .i64 (putF S k v).1) ∧ SysOut w w' okd ok p pd (putF S k v).2 ∧ Chg (fun j => okd j ∨ ok j) w w' := by
  obtain ⟨R, hR⟩ : ∃ R, putF S k v = R := ⟨_, rfl⟩
  rw [hR]
  have HR := hid hR
  clear hR
  have hlm := RB_len hF
  have hB0 := below_alloc (Below.refl w.heap.size w) (.cells #[.string k] 9)
  have hsz0 : (w.alloc (.cells #[.string k] 9)).heap.size = w.heap.size + 1 := World.size_alloc _ _
  have hmay := may_alive (h.below hB0) hdead k
  have hk0 := heap_alloc_new w (.cells #[.string k] 9)
  have H0 := hid (And.intro hd (And.intro h (And.intro hod (And.intro hos (And.intro hap (And.intro hF (And.intro hc (And.intro hv hwf))))))))
  clear hd h hod hos hap hF hc hv hwf
  go_enter Tryz.func22, Tryz.ntmps22
  go_wp2_with fail
  refine hmay.mono ?_
  rintro e w1 ⟨rfl, hB1⟩
  have hB2 := below_step hB0 hB1
  have hk1 := (hB1.block _ (blk_lt hk0)).trans hk0
  have kc := cell_of_row _ _ 0 _ _ _ hk1
  simp at kc
  clear hmay hB0 hB1 hk0
  by_cases hkey : keyedB k
  · rw [if_pos hkey]
    have hk40 := hkey.2
    have us : IntKind.i64.wrap (131064 - (k.size : Int)) = 131064 - k.size := by rw [IntKind.wrap_i64]; omega
    by_cases hbig : 131064 - (k.size : Int) < (v.length : Int)
    · clear hk1
      go_wp2
      go_ret
      obtain ⟨hd, h, hod, hos, hap, hF, hc, hv, hwf⟩ := H0.out
      have hR : R = (3, S) := by
        rw [← HR.out]
        unfold putF
        rw [if_neg (by rw [hdead]; simp), if_neg (fun hh => hh hkey), if_pos (by omega)]
      rw [hR]
      exact ⟨rfl, SysOut.same hd h hap hB2, Chg.of_below hB2 _⟩
    have hfits : Unit → v.length ≤ 131072 := fun _ => by omega
    go_wp2_with fail
    obtain ⟨hd, h, hod, hos, hap, hF, hc, hv, hwf⟩ := H0.out
    obtain ⟨okr, hb, mb, dv, hP⟩ := h.below (w1 := w1.drew) (below_drew hB2)
    have c5 := hP.blk.c5
    obtain ⟨A2, n2, c2, hlk, _, hn2, hnc2, hR2⟩ := hP.ent.look (k := k) hks
    have kcd : w1.drew.cell? ⟨w.heap.size, 0, none⟩ = some (.string k) := kc
    have hcv1 : ∀ W, Below w1.drew.heap.size w1.drew W → (convert 25 9 (.slice A2 n2 c2)).run Tryz.prog W = .ok (.string (strOfNums ((look S.E k).getD []))) W := fun W hW => by
      rw [hn2]
      exact conv_str (Kd.F_now (RB_below hR2 hW))
    have hcv2 : ∀ W, Below w1.drew.heap.size w1.drew W → (convert 25 9 (.slice A v.length c)).run Tryz.prog W = .ok (.string (strOfNums v)) W := fun W hW =>
      conv_str (Kd.F_now (RB_below (RB_below hF (below_drew hB2)) (by exact hW)))
    have hbw : Bytes ((look S.E k).getD []) := by
      cases hl : look S.E k with
      | none => exact Bytes.nil
      | some bs => exact (hwf.ent _ (look_mem hl)).2.1
    have hcmp := toL_str hbw hv
    have hlen2 : Unit → ((look S.E k).getD []).length ≤ 131072 := fun _ => by
      cases hl : look S.E k with
      | none => simp
      | some bs => exact (hwf.ent _ (look_mem hl)).2.2
    have HL := hid (And.intro hn2 hnc2)
    clear hP hR2 hbw hd h hod hos hap hF hc hv hwf hn2 hnc2
    obtain ⟨T1, hT1⟩ : ∃ T, strOfNums ((look S.E k).getD []) = T := ⟨_, rfl⟩
    obtain ⟨T2, hT2⟩ : ∃ T, strOfNums v = T := ⟨_, rfl⟩
    rw [hT1] at hcv1 hcmp
    rw [hT2] at hcv2 hcmp
    clear hT1 hT2
    obtain ⟨q, hq⟩ : ∃ q, decide ((look S.E k).getD [] = v) = q := ⟨_, rfl⟩
    rw [hq] at hcmp
    obtain ⟨is, his⟩ : ∃ is, (look S.E k).isSome = is := ⟨_, rfl⟩
    rw [his] at hlk
    have HQ := hid (And.intro hq his)
    clear hq his
    have e1 := hcv1 _ (Below.refl _ _)
    have e2 := hcv2 _ (Below.refl _ _)
    clear hcv1 hcv2
    refine wp_region_plan [] (.take 0 (.take 1 (.take 2 (.take 3 (.take 4 (.take 5 (.take 6 (.take 7 (.take 8 (.take 9 (.take 10 .done))))))))))) (fun W => W = w1.drew) (by kernel_rfl) (by kernel_rfl) (fun c a d v w h => by cases d <;> exact h) rfl ?_
    iterate 11 (apply plan_take rfl rfl; (case hy => (intro w' hS; subst hS; go_simp; try exact rfl)); go_simp)
    refine plan_done ?_
    have hB3 : Below w.heap.size w w1.drew := below_drew hB2
    generalize w1.drew = w3 at kcd e1 e2 hB3 ⊢
    clear kc hB2 hk1 c5 hlk
    by_cases hsame : is = true ∧ q = true
    · obtain ⟨rfl, rfl⟩ := hsame
      go_wp2
      go_ret
      obtain ⟨hd, h, hod, hos, hap, hF, hc, hv, hwf⟩ := H0.out
      have hls : look S.E k = some v := by
        obtain ⟨h1, h2⟩ := HQ.out
        cases hl : look S.E k with
        | none => rw [hl] at h2; cases h2
        | some bs => rw [hl] at h1; simp at h1; rw [h1]
      have hR : R = (0, S) := by
        rw [← HR.out]
        unfold putF
        rw [if_neg (by rw [hdead]; simp), if_neg (fun hh => hh hkey), if_neg (by omega), if_pos hls]
      rw [hR]
      exact ⟨rfl, SysOut.same hd h hap hB3, Chg.of_below hB3 _⟩
    · have hor : is = false ∨ (is = true ∧ q = false) := by cases is <;> cases q <;> simp_all
      clear hsame
      rcases hor with rfl | ⟨rfl, rfl⟩
      · skip
        have hcl := clone_any (c := c) (Kd.F_now (RB_below H0.out.2.2.2.2.2.1 hB3)) (by have := hfits (); omega)
        go_wp2_with fail
        refine hcl.mono ?_
        rintro e w4 ⟨A4, c4, rfl, hR4, hB4⟩
        have hle4 : v.length ≤ c4 := by
          obtain ⟨_, _, e4, h4, _⟩ := Kd.R_reads hR4
          injection e4 with _ _ e4
          omega
        have hB5 := below_step (below_step hB3 hB4) (below_alloc (Below.refl _ _) (.cells #[.slice A4 v.length c4] 25))
        have ho5 := heap_alloc_new w4 (.cells #[.slice A4 v.length c4] 25)
        have hk5 : (w4.alloc (.cells #[.slice A4 v.length c4] 25)).cell? ⟨w.heap.size, 0, none⟩ = some (.string k) := ((hB4.alloc hB4.size (.cells #[.slice A4 v.length c4] 25)).cell (p := ⟨w.heap.size, 0, none⟩) (World.block_lt_of_cell? w3 _ kcd)).trans kcd
        have hV5 : RB (w4.alloc (.cells #[.slice A4 v.length c4] 25)) (fun j => w3.heap.size ≤ j ∧ j < w4.heap.size) A4 v := RB_below (Kd.F_bound (Kd.R_F hR4)) (below_alloc (Below.refl _ _) _)
        have hsz5 : (w4.alloc (.cells #[.slice A4 v.length c4] 25)).heap.size = w4.heap.size + 1 := World.size_alloc _ _
        have hs3 : w.heap.size ≤ w3.heap.size := hB3.size
        have hs4 : w3.heap.size ≤ w4.heap.size := hB4.size
        have hb4 : w.heap.size < w3.heap.size := World.block_lt_of_cell? w3 _ kcd
        clear hcl hR4 hB4 hB3 e1 e2 kcd
        have HV := hid (And.intro hV5 (And.intro hB5 (And.intro hsz5 (And.intro hle4 (And.intro hs3 (And.intro hs4 hb4))))))
        have hrc := record_any (w := w4.alloc (.cells #[.slice A4 v.length c4] 25)) (c := c4) k hV5 (fun j hj => by omega) (by have := hfits (); have := hkey.2; omega)
        have o0 : (w4.alloc (.cells #[.slice A4 v.length c4] 25)).cell? ⟨w4.heap.size, 0, none⟩ = some (.slice A4 v.length c4) := by rw [cell_of_row _ _ 0 _ _ _ ho5]; rfl
        have HO := hid (And.intro o0 hk5)
        clear hV5 hB5 hsz5 ho5 hle4
        go_wp2_with fail
        generalize w4.alloc (.cells #[.slice A4 v.length c4] 25) = w5 at HV HO hrc o0 hk5 ⊢
        refine hrc.mono ?_
        rintro e w6 ⟨A6, c6, rfl, hR6, hB6⟩
        obtain ⟨hV5, hB5, hsz5, hle4, _, _, _⟩ := HV.out
        obtain ⟨o0', k0'⟩ := HO.out
        obtain ⟨hd, h, hod, hos, hap, hF, hc, hv, hwf⟩ := H0.out
        have hB7 := below_step hB5 hB6
        obtain ⟨okr, hb, mb, dv, hP⟩ := h.below hB7
        have hle6 : (recB k v).length ≤ c6 := by
          obtain ⟨_, _, e6, h6, _⟩ := Kd.R_reads hR6
          injection e6 with _ _ e6
          omega
        have hs6 := hB6.size
        have hch := change_put (w := w6) (ob := w4.heap.size) (kc := w.heap.size) (okv := fun j => w3.heap.size ≤ j ∧ j < w4.heap.size) (Av := A4) (cv := c4) (hd.step (fun j _ hj => hB7.block j hj)) hP hwf hm (fun j hj => by have := hod j hj; omega) (fun j hj => by have := hos j hj; omega) hap
          (Kd.F_bound (Kd.R_F hR6)) (fun j hj => ⟨hj.2, fun e => by have := hod j e; omega, fun e => by have := hos j e; omega⟩) hle6 hkey hv (hfits ()) ((hB6.cell (p := ⟨w4.heap.size, 0, none⟩) (by show w4.heap.size < _; omega)).trans o0') hle4 (RB_below hV5 hB6)
          (fun j hj => ⟨by omega, fun e => by have := hod j e; omega, fun e => by have := hos j e; omega⟩) ⟨fun e => by have := hod _ e; omega, fun e => by have := hos _ e; omega⟩ ((hB6.cell (p := ⟨w.heap.size, 0, none⟩) (by show w.heap.size < _; omega)).trans k0') ⟨fun e => by have := hod _ e; omega, fun e => by have := hos _ e; omega⟩
        have hmf := make_func
        clear hd h hod hos hap hF hc hv hwf hP hR6 hrc hB5 hB6 hV5 hsz5 hle4 hle6 o0' k0'
        have HZ := hid hB7
        clear hB7
        go_wp2_with fail
        refine hch.mono ?_
        rintro e w7 ⟨rfl, hS7, hC7⟩
        have HY := hid (And.intro hS7 hC7)
        clear hS7 hC7 hch
        go_wp2
        go_ret
        obtain ⟨hS7, hC7⟩ := HY.out
        have hR : R = changeF S 1 (recB k v) (putE k v S.E) := by
          rw [← HR.out]
          unfold putF
          rw [if_neg (by rw [hdead]; simp), if_neg (fun hh => hh hkey), if_neg (by omega), if_neg ?_]
          intro hls
          obtain ⟨h1, h2⟩ := HQ.out
          rw [hls] at h1 h2
          simp at h1 h2
        rw [hR]
        refine ⟨rfl, hS7.later (Nat.le_trans HZ.out.size (Nat.le_refl _)) (fun j hj => hj.elim .inl (fun hj => .inr (by omega))), ?_⟩
        exact (Chg.of_below HZ.out (fun j => okd j ∨ ok j)).then_ hC7 (fun j hj => .inl hj)
      · skip
        have hcl := clone_any (c := c) (Kd.F_now (RB_below H0.out.2.2.2.2.2.1 hB3)) (by have := hfits (); omega)
        go_wp2_with fail
        refine hcl.mono ?_
        rintro e w4 ⟨A4, c4, rfl, hR4, hB4⟩
        have hle4 : v.length ≤ c4 := by
          obtain ⟨_, _, e4, h4, _⟩ := Kd.R_reads hR4
          injection e4 with _ _ e4
          omega
        have hB5 := below_step (below_step hB3 hB4) (below_alloc (Below.refl _ _) (.cells #[.slice A4 v.length c4] 25))
        have ho5 := heap_alloc_new w4 (.cells #[.slice A4 v.length c4] 25)
        have hk5 : (w4.alloc (.cells #[.slice A4 v.length c4] 25)).cell? ⟨w.heap.size, 0, none⟩ = some (.string k) := ((hB4.alloc hB4.size (.cells #[.slice A4 v.length c4] 25)).cell (p := ⟨w.heap.size, 0, none⟩) (World.block_lt_of_cell? w3 _ kcd)).trans kcd
        have hV5 : RB (w4.alloc (.cells #[.slice A4 v.length c4] 25)) (fun j => w3.heap.size ≤ j ∧ j < w4.heap.size) A4 v := RB_below (Kd.F_bound (Kd.R_F hR4)) (below_alloc (Below.refl _ _) _)
        have hsz5 : (w4.alloc (.cells #[.slice A4 v.length c4] 25)).heap.size = w4.heap.size + 1 := World.size_alloc _ _
        have hs3 : w.heap.size ≤ w3.heap.size := hB3.size
        have hs4 : w3.heap.size ≤ w4.heap.size := hB4.size
        have hb4 : w.heap.size < w3.heap.size := World.block_lt_of_cell? w3 _ kcd
        clear hcl hR4 hB4 hB3 e1 e2 kcd
        have HV := hid (And.intro hV5 (And.intro hB5 (And.intro hsz5 (And.intro hle4 (And.intro hs3 (And.intro hs4 hb4))))))
        have hrc := record_any (w := w4.alloc (.cells #[.slice A4 v.length c4] 25)) (c := c4) k hV5 (fun j hj => by omega) (by have := hfits (); have := hkey.2; omega)
        have o0 : (w4.alloc (.cells #[.slice A4 v.length c4] 25)).cell? ⟨w4.heap.size, 0, none⟩ = some (.slice A4 v.length c4) := by rw [cell_of_row _ _ 0 _ _ _ ho5]; rfl
        have HO := hid (And.intro o0 hk5)
        clear hV5 hB5 hsz5 ho5 hle4
        go_wp2_with fail
        generalize w4.alloc (.cells #[.slice A4 v.length c4] 25) = w5 at HV HO hrc o0 hk5 ⊢
        refine hrc.mono ?_
        rintro e w6 ⟨A6, c6, rfl, hR6, hB6⟩
        obtain ⟨hV5, hB5, hsz5, hle4, _, _, _⟩ := HV.out
        obtain ⟨o0', k0'⟩ := HO.out
        obtain ⟨hd, h, hod, hos, hap, hF, hc, hv, hwf⟩ := H0.out
        have hB7 := below_step hB5 hB6
        obtain ⟨okr, hb, mb, dv, hP⟩ := h.below hB7
        have hle6 : (recB k v).length ≤ c6 := by
          obtain ⟨_, _, e6, h6, _⟩ := Kd.R_reads hR6
          injection e6 with _ _ e6
          omega
        have hs6 := hB6.size
        have hch := change_put (w := w6) (ob := w4.heap.size) (kc := w.heap.size) (okv := fun j => w3.heap.size ≤ j ∧ j < w4.heap.size) (Av := A4) (cv := c4) (hd.step (fun j _ hj => hB7.block j hj)) hP hwf hm (fun j hj => by have := hod j hj; omega) (fun j hj => by have := hos j hj; omega) hap
          (Kd.F_bound (Kd.R_F hR6)) (fun j hj => ⟨hj.2, fun e => by have := hod j e; omega, fun e => by have := hos j e; omega⟩) hle6 hkey hv (hfits ()) ((hB6.cell (p := ⟨w4.heap.size, 0, none⟩) (by show w4.heap.size < _; omega)).trans o0') hle4 (RB_below hV5 hB6)
          (fun j hj => ⟨by omega, fun e => by have := hod j e; omega, fun e => by have := hos j e; omega⟩) ⟨fun e => by have := hod _ e; omega, fun e => by have := hos _ e; omega⟩ ((hB6.cell (p := ⟨w.heap.size, 0, none⟩) (by show w.heap.size < _; omega)).trans k0') ⟨fun e => by have := hod _ e; omega, fun e => by have := hos _ e; omega⟩
        have hmf := make_func
        clear hd h hod hos hap hF hc hv hwf hP hR6 hrc hB5 hB6 hV5 hsz5 hle4 hle6 o0' k0'
        have HZ := hid hB7
        clear hB7
        go_wp2_with fail
        refine hch.mono ?_
        rintro e w7 ⟨rfl, hS7, hC7⟩
        have HY := hid (And.intro hS7 hC7)
        clear hS7 hC7 hch
        go_wp2
        go_ret
        obtain ⟨hS7, hC7⟩ := HY.out
        have hR : R = changeF S 1 (recB k v) (putE k v S.E) := by
          rw [← HR.out]
          unfold putF
          rw [if_neg (by rw [hdead]; simp), if_neg (fun hh => hh hkey), if_neg (by omega), if_neg ?_]
          intro hls
          obtain ⟨h1, h2⟩ := HQ.out
          rw [hls] at h1 h2
          simp at h1 h2
        rw [hR]
        refine ⟨rfl, hS7.later (Nat.le_trans HZ.out.size (Nat.le_refl _)) (fun j hj => hj.elim .inl (fun hj => .inr (by omega))), ?_⟩
        exact (Chg.of_below HZ.out (fun j => okd j ∨ ok j)).then_ hC7 (fun j hj => .inl hj)
  · rw [if_neg hkey]
    clear hk1
    go_wp2
    go_ret
    obtain ⟨hd, h, hod, hos, hap, hF, hc, hv, hwf⟩ := H0.out
    have hR : R = (1, S) := by
      rw [← HR.out]
      unfold putF
      rw [if_neg (by rw [hdead]; simp), if_pos hkey]
    rw [hR]
    exact ⟨rfl, SysOut.same hd h hap hB2, Chg.of_below hB2 _⟩
set_option maxRecDepth 100000 in
set_option maxHeartbeats 8000000 in
theorem sdel_alive {w : World} {okd ok : Nat → Prop} {p pd : Nat} {S : SM} {k : ByteArray} (hd : PDisk w okd pd S.D) (h : PSto w ok p pd S) (hwf : S.wf) (hm : Room S.D) (hdead : S.dead = false)
    (hod : ∀ j, okd j → j < w.heap.size) (hos : ∀ j, ok j → j < w.heap.size) (hap : apart okd ok) (hks : k.size ≤ 9223372036854775807) :
    Calls Tryz.prog 23 #[.pointer (some ⟨p, 0, none⟩), .string k] w fun e w' => e = .returned (.int .i64 (delF S k).1) ∧ SysOut w w' okd ok p pd (delF S k).2 ∧ Chg (fun j => okd j ∨ ok j) w w' := by
  obtain ⟨R, hR⟩ : ∃ R, delF S k = R := ⟨_, rfl⟩
  rw [hR]
  have HR := hid hR
  clear hR
  have hB0 := below_alloc (Below.refl w.heap.size w) (.cells #[.string k] 9)
  have hmay := may_alive (h.below hB0) hdead k
  have hk0 := heap_alloc_new w (.cells #[.string k] 9)
  have H0 := hid (And.intro hd (And.intro h (And.intro hod (And.intro hos (And.intro hap hwf)))))
  clear hd h hod hos hap hwf
  go_enter Tryz.func23, Tryz.ntmps23
  go_wp2_with fail
  refine hmay.mono ?_
  rintro e w1 ⟨rfl, hB1⟩
  have hB2 := below_step hB0 hB1
  have hk1 := (hB1.block _ (blk_lt hk0)).trans hk0
  have kc := cell_of_row _ _ 0 _ _ _ hk1
  simp at kc
  clear hmay hB0 hB1 hk0
  by_cases hkey : keyedB k
  · rw [if_pos hkey]
    have hk40 := hkey.2
    go_wp2_with fail
    obtain ⟨hd, h, hod, hos, hap, hwf⟩ := H0.out
    obtain ⟨okr, hb, mb, dv, hP⟩ := h.below (w1 := w1.drew) (below_drew hB2)
    have c5 := hP.blk.c5
    obtain ⟨A2, n2, c2, hlk, _, _, _, _⟩ := hP.ent.look (k := k) hks
    have kcd : w1.drew.cell? ⟨w.heap.size, 0, none⟩ = some (.string k) := kc
    clear hP hd h hod hos hap hwf
    obtain ⟨is, his⟩ : ∃ is, (look S.E k).isSome = is := ⟨_, rfl⟩
    rw [his] at hlk
    have HQ := hid his
    clear his
    refine wp_region_plan [] (.take 0 (.take 1 (.take 2 (.take 3 (.take 4 (.take 5 (.take 6 (.take 7 (.take 8 (.take 9 (.take 10 .done))))))))))) (fun W => W = w1.drew) (by kernel_rfl) (by kernel_rfl) (fun c a d v w h => by cases d <;> exact h) rfl ?_
    iterate 11 (apply plan_take rfl rfl; (case hy => (intro w' hS; subst hS; go_simp; try exact rfl)); go_simp)
    refine plan_done ?_
    have hB3 : Below w.heap.size w w1.drew := below_drew hB2
    generalize w1.drew = w3 at kcd hB3 ⊢
    clear kc hB2 hk1 c5 hlk
    cases is with
    | false =>
      go_wp2
      go_ret
      obtain ⟨hd, h, hod, hos, hap, hwf⟩ := H0.out
      have hls : look S.E k = none := by simpa using HQ.out
      have hR : R = (0, S) := by
        rw [← HR.out]
        unfold delF
        rw [if_neg (by rw [hdead]; simp), if_neg (fun hh => hh hkey), if_pos hls]
      rw [hR]
      exact ⟨rfl, SysOut.same hd h hap hB3, Chg.of_below hB3 _⟩
    | true =>
      have h0 := new_writer w3
      have hB4 := below_step hB3 (below_alloc (Below.refl _ _) (.cells #[.slice none 0 0] 108))
      have hk4 : (w3.alloc (.cells #[.slice none 0 0] 108)).cell? ⟨w.heap.size, 0, none⟩ = some (.string k) := ((below_alloc (Below.refl w3.heap.size w3) (.cells #[.slice none 0 0] 108)).cell (p := ⟨w.heap.size, 0, none⟩) (World.block_lt_of_cell? w3 _ kcd)).trans kcd
      have htx := wtext_any k h0.bound (fun _ h => h.2) (by simp; omega)
      rw [List.nil_append] at htx
      have hsw : w.heap.size < w3.heap.size := World.block_lt_of_cell? w3 _ kcd
      have hsz4 : (w3.alloc (.cells #[.slice none 0 0] 108)).heap.size = w3.heap.size + 1 := World.size_alloc _ _
      have HK4 := hid (And.intro hk4 (And.intro hB4 hsz4))
      clear h0 hB4 hB3 kcd hsz4
      go_wp2_with fail
      generalize w3.alloc (.cells #[.slice none 0 0] 108) = w4 at htx HK4 hk4 ⊢
      refine htx.mono ?_
      rintro e w5 ⟨rfl, h5, c5⟩
      obtain ⟨_, hB4, hsz4⟩ := HK4.out
      have hk5 : w5.cell? ⟨w.heap.size, 0, none⟩ = some (.string k) := c5.cell_ hk4 (fun e => by have h9 : w3.heap.size ≤ w.heap.size := e.1; omega)
      have hB5 := hB4.trans (c5.below_ (B := w.heap.size) hB4.size (fun j hj => by have := hj.1; omega))
      have hby := wbytes_any h5 (by rw [rawB_length, bytesOf_length]; omega)
      clear htx h5 c5 hk4 hB4 HK4 hsz4
      go_wp2_with fail
      refine hby.mono ?_
      rintro e w6 ⟨A6, c6, rfl, hR6, hB6⟩
      obtain ⟨hd, h, hod, hos, hap, hwf⟩ := H0.out
      have hB7 := hB5.trans (hB6.mono hB5.size)
      obtain ⟨okr, hb, mb, dv, hP⟩ := h.below hB7
      have hle6 : (rawB (bytesOf k)).length ≤ c6 := by
        obtain ⟨_, _, e6, h6, _⟩ := Kd.R_reads hR6
        injection e6 with _ _ e6
        omega
      have hs5 := hB5.size
      have hs6 := hB6.size
      have hch := change_del (w := w6) (kc := w.heap.size) (hd.step (fun j _ hj => hB7.block j hj)) hP hwf hm (fun j hj => by have := hod j hj; omega) (fun j hj => by have := hos j hj; omega) hap
        (Kd.F_bound (Kd.R_F hR6)) (fun j hj => ⟨hj.2, fun e => by have := hod j e; omega, fun e => by have := hos j e; omega⟩) hle6 hkey ((hB6.cell (p := ⟨w.heap.size, 0, none⟩) (World.block_lt_of_cell? w5 _ hk5)).trans hk5) ⟨fun e => by have := hod _ e; omega, fun e => by have := hos _ e; omega⟩
      have hmf := make_func
      clear hd h hod hos hap hwf hP hR6 hby hB5 hB6 hle6 hk5
      have HZ := hid hB7
      clear hB7
      go_wp2_with fail
      refine hch.mono ?_
      rintro e w7 ⟨rfl, hS7, hC7⟩
      have HY := hid (And.intro hS7 hC7)
      clear hS7 hC7 hch
      go_wp2
      go_ret
      obtain ⟨hS7, hC7⟩ := HY.out
      have hR : R = changeF S 2 (rawB (bytesOf k)) (delE k S.E) := by
        rw [← HR.out]
        unfold delF
        rw [if_neg (by rw [hdead]; simp), if_neg (fun hh => hh hkey), if_neg (fun hls => by have := HQ.out; rw [hls] at this; cases this)]
      rw [hR]
      refine ⟨rfl, hS7.later HZ.out.size (fun j hj => .inl hj), ?_⟩
      exact (Chg.of_below HZ.out (fun j => okd j ∨ ok j)).then_ hC7 (fun j hj => .inl hj)
  · rw [if_neg hkey]
    clear hk1
    go_wp2
    go_ret
    obtain ⟨hd, h, hod, hos, hap, hwf⟩ := H0.out
    have hR : R = (1, S) := by
      rw [← HR.out]
      unfold delF
      rw [if_neg (by rw [hdead]; simp), if_pos hkey]
    rw [hR]
    exact ⟨rfl, SysOut.same hd h hap hB2, Chg.of_below hB2 _⟩
end Go.Proofs.YticogmpafehomaaGreatDoor

set_option linter.unusedVariables false
set_option linter.unusedSimpArgs false
namespace Go.Proofs.YticogmpafehomaaGreatDoor
open Go.RowKit Go.Maps Go.Proofs.YticogmpafehomaaGreatDoorW.PrintWords Go.Proofs.YticogmpafehomaaGreatDoorW.PrintMore

theorem sameB_any {w : World} {A A' : Option Addr} {c c' : Nat} {xs ys : List Int} (h : KB.C w A xs.length xs) (hx : Bytes xs) (h' : KB.C w A' ys.length ys) (hy : Bytes ys) :
    Calls Tryz.prog 14 #[.slice A xs.length c, .slice A' ys.length c'] w fun e w' => e = .returned (.bool (decide (xs = ys))) ∧ w = w' := by
  have e1 := conv_str (c := c) h
  have e2 := conv_str (c := c') h'
  have e3 := toL_str hx hy
  generalize strOfNums xs = S at e1 e3
  generalize strOfNums ys = T at e2 e3
  generalize decide (xs = ys) = q at e3 ⊢
  cases q with
  | true =>
    go_enter Tryz.func14, Tryz.ntmps14
    go_wp2
    go_ret
    exact ⟨by simp_all, rfl⟩
  | false =>
    go_enter Tryz.func14, Tryz.ntmps14
    go_wp2
    go_ret
    exact ⟨by simp_all, rfl⟩
/-- A disk and a store of a call's own. -/
structure OwnSys (w wr : World) (pd ps : Nat) (S : SM) (okd okS : Nat → Prop) : Prop where
  d : PDisk wr okd pd S.D
  s : PSto wr okS ps pd S
  ap : apart okd okS
  gd : ∀ k, okd k → w.heap.size ≤ k ∧ k < wr.heap.size
  gs : ∀ k, okS k → w.heap.size ≤ k ∧ k < wr.heap.size
  bel : Below w.heap.size w wr
theorem OwnSys.below {w wr w1 : World} {pd ps : Nat} {S : SM} {okd okS : Nat → Prop} (h : OwnSys w wr pd ps S okd okS) (hb : Below wr.heap.size wr w1) : OwnSys w w1 pd ps S okd okS :=
  ⟨h.d.step (fun k _ hk => hb.block k hk), h.s.below hb, h.ap, fun k hk => by have := h.gd k hk; have := hb.size; omega, fun k hk => by have := h.gs k hk; have := hb.size; omega, h.bel.trans (hb.mono h.bel.size)⟩
theorem OwnSys.out {w wr w1 : World} {pd ps : Nat} {S S' : SM} {okd okS : Nat → Prop} (h : OwnSys w wr pd ps S okd okS) (ho : SysOut wr w1 okd okS ps pd S') (hc : Chg (fun k => okd k ∨ okS k) wr w1) : ∃ okd' okS', OwnSys w w1 pd ps S' okd' okS' := by
  obtain ⟨a, b, h1, h2, h3, h4, h5⟩ := ho
  have hs := hc.size
  have hs0 := h.bel.size
  exact ⟨fun k => a k ∧ k < w1.heap.size, fun k => b k ∧ k < w1.heap.size, h1.bound, h2.bound, fun k q1 q2 => h3 k q1.1 q2.1,
    fun k hk => ⟨(h4 k hk.1).elim (fun e => (h.gd k e).1) (fun e => Nat.le_trans hs0 e), hk.2⟩, fun k hk => ⟨(h5 k hk.1).elim (fun e => (h.gs k e).1) (fun e => Nat.le_trans hs0 e), hk.2⟩,
    h.bel.trans (hc.below_ (B := w.heap.size) hs0 (fun k hk => hk.elim (fun e => (h.gd k e).1) (fun e => (h.gs k e).1)))⟩
theorem room_le {D : DM} {m : Nat} (h : D.ws.length ≤ m) (hm : (m : Int) ≤ 4000000000000) : Room D := fun _ => by
  have h2 := Int.ofNat_le.2 h
  refine Int.ofNat_le.1 ?_
  rw [Int.natCast_mul, Int.natCast_add]
  generalize ((D.ws.length : Nat) : Int) = b at h2 ⊢
  have e1 : ((4300000000 : Nat) : Int) = 4300000000 := rfl
  have e2 : ((32 : Nat) : Int) = 32 := rfl
  have e3 : ((140737488355328 : Nat) : Int) = 140737488355328 := rfl
  rw [e1, e2, e3]
  omega
theorem room100 {D : DM} (h : D.ws.length ≤ 100) : Room D := room_le h (by show (100 : Int) ≤ 4000000000000; omega)
theorem liveS_wf : ∀ i, i ≤ 8 → (liveS i).wf
  | 0, _ => by
    have h := live_f0
    obtain ⟨⟨E, D', o⟩, hf⟩ : ∃ r, formatF (DM.new 16) = r := ⟨_, rfl⟩
    have h2 := h.2.1
    unfold liveS live0
    rw [hf] at h2 ⊢
    cases o with
    | none => cases h2
    | some S => exact (formatF_wf (new_wf (by omega) (by omega)) hf).1
  | i + 1, h => putF_wf (liveS_wf i (by omega)) kA (fun x hx => by simp at hx; omega)
set_option maxRecDepth 100000 in
set_option maxHeartbeats 8000000 in
theorem live_any {w : World} : Calls Tryz.prog 17 #[] w fun e w' => e = .returned (.bool true) ∧ Below w.heap.size w w' := by
  obtain ⟨f1, f2, f3, f4, f5⟩ := live_f0
  have hnew := new_ok (w := w) 16 (by omega) (by omega)
  have hmk : ∀ W : World, (Instr.makeSlice 25 (.int .i64 300) (.int .i64 300)).run Tryz.prog W = .ok (.slice (some ⟨W.heap.size, 0, none⟩) 300 300) (W.alloc (.cells (madeCells #[.int .u8 0] 300) 5)) :=
    print_make 25 5 .u8 1 Tryz.underlying25 info_u8 (by decide) 300 (by omega)
  have hF := hid (And.intro f3 (And.intro f4 f5))
  go_enter Tryz.func17, Tryz.ntmps17
  go_wp2_with fail
  refine hnew.mono ?_
  rintro e w1 ⟨rfl, hP1, hB1⟩
  have hfm := format_any hP1.bound (by simp [DM.new]) (fun k hk => hk.2)
  obtain ⟨⟨E, D', o⟩, hf⟩ : ∃ r, formatF (DM.new 16) = r := ⟨_, rfl⟩
  have hl0 : live0 = orS o := by unfold live0; rw [hf]
  rw [hf] at f1 f2 hfm
  dsimp only at f1 f2 hfm
  subst f1
  cases o with
  | none => cases f2
  | some S0 =>
  have hl0 : live0 = S0 := hl0
  clear hnew hP1 f2 f3 f4 f5
  go_wp2_with fail
  refine hfm.mono ?_
  rintro e w2 ⟨v, rfl, ⟨ps, okd, okS, rfl, hP2, hS2, hap2, hgd2, hgs2⟩, hC2⟩
  have hs1 := hB1.size
  have hB2 : Below w.heap.size w w2 := hB1.trans (hC2.below_ (B := w.heap.size) hs1 (fun k hk => hk.1))
  have h0 : OwnSys w w2 (w.heap.size + 1) ps (liveS 0) (fun k => okd k ∧ k < w2.heap.size) (fun k => okS k ∧ k < w2.heap.size) := by
    show OwnSys w w2 (w.heap.size + 1) ps live0 _ _
    rw [hl0]
    exact ⟨hP2.bound, hS2.bound, fun k h1 h2 => hap2 k h1.1 h2.1, fun k hk => ⟨(hgd2 k hk.1).elim (fun e => e.1) (fun e => Nat.le_trans hs1 e), hk.2⟩, fun k hk => ⟨Nat.le_trans hs1 (hgs2 k hk.1), hk.2⟩, hB2⟩
  have hha := shalf_any hS2 hP2
  rw [← hl0, hF.out.1] at hha
  have H0 := hid h0
  clear hfm hP2 hS2 hap2 hgd2 hgs2 hC2 hB2 hB1 h0
  go_wp2_with (go_at_call 30; refine hha.mono ?_; rintro e w' ⟨rfl, rfl⟩)
  clear hha
  go_loopw [5] (fun i wr => ∃ j : Nat, j ≤ 8 ∧ i = .int .i64 j ∧ ∃ okd okS, OwnSys w wr (w.heap.size + 1) ps (liveS j) okd okS) (fun i _ => 8 - (intOf i).toNat)
  case atStart => exact ⟨0, by omega, rfl, _, _, H0.out⟩
  case round =>
    obtain ⟨W, hW⟩ : ∃ W : World, W = wr := ⟨_, rfl⟩
    subst hW
    obtain ⟨j, hj, rfl, okd, okS, hO⟩ := hrel
    by_cases hlt : j < 8
    · have hltI : (j : Int) < 8 := by omega
      have hwb : IntKind.u8.wrap (j : Int) = j := by rw [IntKind.wrap_u8]; omega
      have hA := RB_new W 5 [(j : Int), 0, 0] (by simp)
      have hB := below_alloc (Below.refl W.heap.size W) (.cells (nums .u8 [(j : Int), 0, 0]).toArray 5)
      have hO1 := hO.below hB
      obtain ⟨p1, p2, p3⟩ := live_f1 j hlt
      have hput := sput_alive (k := kA) (c := 3) hO1.d hO1.s (liveS_wf j hj) (room100 p3) p2 (fun k hk => (hO1.gd k hk).2) (fun k hk => (hO1.gs k hk).2) hO1.ap hA (by simp) (fun x hx => by simp at hx; omega) (by decide)
      rw [p1] at hput
      have HO := hid hO1
      clear hA hB hO hO1 p1 p2 p3
      go_wp2_with fail
      refine hput.mono ?_
      rintro e w4 ⟨rfl, hS4, hC4⟩
      have hO4 := HO.out.out hS4 hC4
      have HX := hid hO4
      clear hS4 hC4 hput hO4
      go_wp2
      go_roundw
      case rel => exact ⟨j + 1, hlt, by go_num, HX.out⟩
      case measure => simp only [intOf]; omega
    · obtain rfl : j = 8 := by omega
      obtain ⟨g1, g2, g3, g4, g5, g6, g7, g8⟩ := live_f2
      have hwf8 := liveS_wf 8 (by omega)
      have hmn := sman_any hO.s
      unfold manV at hmn
      rw [g3, g4, g5] at hmn
      have HO := hid hO
      clear hO
      go_wp2_with fail
      refine hmn.mono ?_
      rintro e w4 ⟨rfl, hB4⟩
      have hBm := below_step hB4 (below_alloc (Below.refl _ _) (.cells #[.int .u64 2, .int .u64 2, .int .i64 1] 29))
      have hm5 := heap_alloc_new w4 (.cells #[.int .u64 2, .int .u64 2, .int .i64 1] 29)
      have hO5 := HO.out.below hBm
      have hget := sget_any hO5.s hwf8 kA (by decide)
      rw [g6] at hget
      have HO5 := hid hO5
      clear hmn hB4 hBm hO5
      go_wp2_with fail
      generalize w4.alloc (.cells #[.int .u64 2, .int .u64 2, .int .i64 1] 29) = w5 at hm5 hget HO5 ⊢
      refine hget.mono ?_
      rintro e w6 ⟨A6, c6, rfl, hR6, hB6⟩
      simp only [Option.getD_some, Option.isSome_some] at hR6 ⊢
      have hO6 := HO5.out.below hB6
      have hm6 := (hB6.block _ (blk_lt hm5)).trans hm5
      have hrow := RB_new w6 5 [(7 : Int), 0, 0] (by simp)
      have hBr := below_alloc (Below.refl w6.heap.size w6) (.cells (nums .u8 [(7 : Int), 0, 0]).toArray 5)
      have hsb := sameB_any (c := c6) (c' := 3) (Kd.F_now (RB_below (Kd.R_F hR6) hBr)) (fun x hx => by simp at hx; omega) (Kd.F_now hrow) (fun x hx => by simp at hx; omega)
      rw [decide_eq_true rfl] at hsb
      have hO7 := hO6.below hBr
      have hm7 := (hBr.block _ (blk_lt hm6)).trans hm6
      have hus := sused_any hO7.s
      rw [g7] at hus
      have k0 := cell_of_row _ _ 0 _ _ _ hm7
      have k1 := cell_of_row _ _ 1 _ _ _ hm7
      have k2 := cell_of_row _ _ 2 _ _ _ hm7
      simp at k0 k1 k2
      have hzl : madeCells #[Value.int .u8 0] 300 = (nums .u8 Z300).toArray := by kernel_rfl
      have hmk2 := hmk
      rw [hzl] at hmk2
      have hZl : Z300.length = 300 := by unfold Z300; simp
      have hz := RB_new (w6.alloc (.cells (nums .u8 [(7 : Int), 0, 0]).toArray 5)) 5 Z300 (by rw [hZl]; omega)
      have hBz := below_alloc (Below.refl (w6.alloc (.cells (nums .u8 [(7 : Int), 0, 0]).toArray 5)).heap.size (w6.alloc (.cells (nums .u8 [(7 : Int), 0, 0]).toArray 5))) (.cells (nums .u8 Z300).toArray 5)
      have hO8 := hO7.below hBz
      have hput := sput_alive (k := kB) (c := 300) hO8.d hO8.s hwf8 (room100 g2) g1 (fun k hk => (hO8.gd k hk).2) (fun k hk => (hO8.gs k hk).2) hO8.ap hz (by rw [hZl]; omega) (fun x hx => by unfold Z300 at hx; rw [List.eq_of_mem_replicate hx]; omega) (by decide)
      rw [g8, hZl, World.size_alloc] at hput
      have HF := hid (hO8.bel)
      have HF2 := hid (And.intro hO8.gd hO8.gs)
      clear hget hR6 hB6 hO6 hm6 hrow hO7 hm7 hz hO8 hwf8 g1 g2 g3 g4 g5 g6 g7 g8 hZl hzl hmk hBr hBz
      go_wp2_with fail
      refine hsb.mono ?_
      rintro e w' ⟨rfl, rfl⟩
      go_wp2_with fail
      refine hus.mono ?_
      rintro e w' ⟨rfl, rfl⟩
      clear hsb hus
      go_wp2_with fail
      refine hput.mono ?_
      rintro e w9 ⟨rfl, _, hC9⟩
      have hB9 := HF.out.trans (hC9.below_ (B := w.heap.size) HF.out.size (fun k hk => hk.elim (fun e => (HF2.out.1 k e).1) (fun e => (HF2.out.2 k e).1)))
      clear hC9 hput
      go_wp2
      go_ret
      exact ⟨rfl, hB9⟩
end Go.Proofs.YticogmpafehomaaGreatDoor

set_option linter.unusedVariables false
set_option linter.unusedSimpArgs false
namespace Go.Proofs.YticogmpafehomaaGreatDoor
open Go.RowKit Go.Proofs.YticogmpafehomaaGreatDoorW.PrintWords Go.Proofs.YticogmpafehomaaGreatDoorW.PrintMore

structure Op24 where
  kind : Int
  n : Int
  key : ByteArray
  data : List Int
def opA (o : Op24) (A : Option Addr) (c : Nat) : Array Value := #[.int .i64 o.kind, .int .i64 o.n, .string o.key, .slice A o.data.length c]
structure Op24.ok (o : Op24) : Prop where
  k : -9223372036854775808 ≤ o.kind ∧ o.kind ≤ 9223372036854775807
  n : -9223372036854775808 ≤ o.n ∧ o.n ≤ 9223372036854775807
  key : o.key.size ≤ 140737488351232
  data : Bytes o.data ∧ o.data.length ≤ 140737488351232
abbrev KOp24 : Kd Op24 := Kd.iso (Kd.pair (Kd.int .i64) (Kd.pair (Kd.int .i64) (Kd.pair Kd.string (Kd.slice 5 KB)))) (fun x : Op24 => (x.kind, x.n, x.key, x.data))
theorem KOp24_open {w : World} {o : Op24} {cs : List Value} (h : KOp24.K w o cs) : ∃ A c, cs = (opA o A c).toList ∧ o.data.length ≤ c ∧ KB.C w A o.data.length o.data := by
  obtain ⟨c0, cs1, rfl, h0, c1, cs2, rfl, h1, c2, c3, rfl, h2, A, c, h3, hl, hC⟩ := h
  obtain rfl : c0 = [.int .i64 o.kind] := h0
  obtain rfl : c1 = [.int .i64 o.n] := h1
  obtain rfl : c2 = [.string o.key] := h2
  subst h3
  exact ⟨A, c, rfl, hl, hC⟩
theorem opens_op24 : Opens Tryz.prog 41 KOp24 Op24.ok := by
  refine (opens_iso (P := Tryz.prog) (t := 41) (fun x : Op24 => (x.kind, x.n, x.key, x.data)) (fun p => ⟨p.1, p.2.1, p.2.2.1, p.2.2.2⟩) (fun _ => rfl)
    (opens_struct Tryz.underlying41 (by kernel_rfl) (opensF_cons rfl (by kernel_rfl) (opens_int Tryz.underlying3) (opensF_cons rfl (by kernel_rfl) (opens_int Tryz.underlying3) (opensF_cons rfl (by kernel_rfl) (opens_string Tryz.underlying9) (opensF_one rfl (by kernel_rfl) opens_bytes)))))).mono ?_
  rintro o ⟨h0, h1, h2, h3⟩
  have b0 := bounds_i64 h0
  have b1 := bounds_i64 h1
  exact ⟨b0, b1, h2, h3⟩
end Go.Proofs.YticogmpafehomaaGreatDoor

set_option linter.unusedVariables false
set_option linter.unusedSimpArgs false
namespace Go.Proofs.YticogmpafehomaaGreatDoor
open Go.RowKit Go.Maps Go.Proofs.YticogmpafehomaaGreatDoorW.PrintWords Go.Proofs.YticogmpafehomaaGreatDoorW.PrintMore

theorem new_blk24 {n j : Nat} (hj : j < n) : (DM.new n).blk j = List.replicate 64 0 := by
  unfold DM.blk DM.new
  dsimp only
  rw [List.drop_replicate, List.take_replicate]
  congr 1
  omega
theorem zero_gen24 : (headR (List.replicate 64 0)).gen = 0 ∧ (bodyV (List.replicate 64 0)).1 = 0 := by decide
theorem zero_man24 (i : Int) : parseM (List.replicate 64 0) i = none := by
  unfold parseM
  rw [if_neg]
  rintro ⟨_, h, _⟩
  have : (manB (List.replicate 64 0)).N = 0 := by decide
  have := h.1
  omega
theorem new_pick24 {n : Nat} (h : 16 ≤ n) : pickM (DM.new n) = ⟨0, 0, 0⟩ := by
  unfold pickM
  rw [new_blk24 (by omega), new_blk24 (by omega), zero_man24, zero_man24]
  rfl
theorem new_stG24 (n : Nat) : stG (DM.new n) = 0 := by
  have h0 := (stG_bnd (DM.new n)).1
  have h1 : stG (DM.new n) ≤ 0 := by
    refine genTo_le (Int.le_refl 0) _ (fun i hi h2 x hx => ?_) (fun i hi h2 => ?_)
    · rw [new_n] at hi
      rw [new_blk24 hi, zero_man24] at hx
      cases hx
    · rw [new_n] at hi
      rw [new_blk24 hi, zero_gen24.1, zero_gen24.2]
      exact ⟨fun _ => Int.le_refl _, fun _ => Int.le_refl _⟩
  omega
/-- How many blocks begun takes. -/
def begN (n : Int) : Nat := 16 + ((if n < 0 then -(n + 1) else n) % 80).toNat
/-- A store of a call's own that is as it should be, on a disk that has all power. -/
structure Begun (w w' : World) (pd ps : Nat) (S : SM) : Prop where
  own : ∃ okd okS, OwnSys w w' pd ps S okd okS
  good : Good S []
  e : S.E = []
  left : S.D.left < 0
  tight : Tight S 1
  ws : S.D.ws.length = 1
set_option maxRecDepth 100000 in
set_option maxHeartbeats 2000000 in
theorem begun_any {w : World} (n : Int) (hn : -9223372036854775808 ≤ n ∧ n ≤ 9223372036854775807) :
    Calls Tryz.prog 18 #[.int .i64 n] w fun e w' => ∃ pd ps S, e = .returned (.tuple #[.pointer (some ⟨pd, 0, none⟩), .pointer (some ⟨ps, 0, none⟩)]) ∧ Begun w w' pd ps S := by
  obtain ⟨a, ha⟩ : ∃ a, (if n < 0 then -(n + 1) else n) = a := ⟨_, rfl⟩
  have ha0 : 0 ≤ a ∧ a ≤ 9223372036854775807 := by rw [← ha]; split <;> omega
  have hb : begN n = 16 + (a % 80).toNat := by unfold begN; rw [ha]
  have hmod : a.tmod 80 = a % 80 := Int.tmod_eq_emod_of_nonneg ha0.1
  obtain ⟨m, hm⟩ : ∃ m, begN n = m := ⟨_, rfl⟩
  have hm16 : 16 ≤ m ∧ m ≤ 95 := by omega
  have hw0 : IntKind.i64.wrap (a % 80) = a % 80 := by rw [IntKind.wrap_i64]; omega
  have hw1 : IntKind.i64.wrap (16 + a % 80) = (m : Int) := by rw [IntKind.wrap_i64]; omega
  have hnew := new_ok (w := w) m hm16.1 (by omega)
  have hfr := format_res (new_wf hm16.1 (by omega : m ≤ 4096)) (show (DM.new m).gone = false from rfl)
  have hpk := new_pick24 hm16.1
  have hsg := new_stG24 m
  rw [hpk, hsg] at hfr
  have hfr : ∃ S, formatF (DM.new m) = (0, S.D, some S) ∧ Good S [] ∧ S.E = [] ∧ S.D.n = (DM.new m).n ∧ S.D.ws.length = (DM.new m).ws.length + 1 ∧ S.D.left = leftOf (DM.new m).left 1 ∧ ¬ (DM.new m).left = 0 ∧ S.m = ⟨0 + 1, 0 + 1, 0⟩ ∧ stG S.D ≤ 0 + 1 := by
    rcases hfr with h | h | h
    · rcases h.2 with e | e
      · simp [mostN] at e
      · simp [mostN] at e
    · have := h.1; simp [DM.new] at this
    · exact h
  obtain ⟨S, hf, hgood, hE, _, hws, hlf, _, hSm, hst⟩ := hfr
  have hS := hid (And.intro hgood (And.intro hE (And.intro (show S.D.left < 0 by rw [hlf]; simp [DM.new, leftOf]) (And.intro (show Tight S 1 from ⟨by omega, by rw [hSm]; dsimp only; omega, by rw [hSm]; dsimp only; omega⟩) (show S.D.ws.length = 1 by rw [hws]; simp [DM.new])))))
  have hfm := fun (W : World) (h : PDisk W (fun k => w.heap.size ≤ k) (w.heap.size + 1) (DM.new m)) => format_any h.bound (by simp [DM.new]) (fun k hk => hk.2)
  rw [hf] at hfm
  dsimp only at hfm
  clear hf hgood hE hws hlf hSm hst hpk hsg hb hm
  by_cases h0 : n < 0
  · rw [if_pos h0] at ha
    have hw2 : IntKind.i64.wrap (n + 1) = n + 1 := by rw [IntKind.wrap_i64]; omega
    have hw3 : IntKind.i64.wrap (-(n + 1)) = a := by rw [IntKind.wrap_i64]; omega
    clear ha
    go_enter Tryz.func18, Tryz.ntmps18
    go_wp2_with fail
    refine hnew.mono ?_
    rintro e w1 ⟨rfl, hP1, hB1⟩
    have hfm := hfm w1 hP1
    have hs1 := hB1.size
    clear hnew hP1
    go_wp2_with fail
    refine hfm.mono ?_
    rintro e w2 ⟨v, rfl, ⟨ps, okd, okS, rfl, hP2, hS2, hap2, hgd2, hgs2⟩, hC2⟩
    have hB2 : Below w.heap.size w w2 := hB1.trans (hC2.below_ (B := w.heap.size) hs1 (fun k hk => hk.1))
    have h0 : OwnSys w w2 (w.heap.size + 1) ps S (fun k => okd k ∧ k < w2.heap.size) (fun k => okS k ∧ k < w2.heap.size) :=
      ⟨hP2.bound, hS2.bound, fun k h1 h2 => hap2 k h1.1 h2.1, fun k hk => ⟨(hgd2 k hk.1).elim (fun e => e.1) (fun e => Nat.le_trans hs1 e), hk.2⟩, fun k hk => ⟨Nat.le_trans hs1 (hgs2 k hk.1), hk.2⟩, hB2⟩
    have H0 := hid h0
    clear hfm hP2 hS2 hap2 hgd2 hgs2 hC2 hB2 hB1 h0
    go_wp2
    go_ret2
    exact ⟨_, _, S, rfl, ⟨_, _, H0.out⟩, hS.out.1, hS.out.2.1, hS.out.2.2.1, hS.out.2.2.2.1, hS.out.2.2.2.2⟩
  · rw [if_neg h0] at ha
    subst ha
    go_enter Tryz.func18, Tryz.ntmps18
    go_wp2_with fail
    refine hnew.mono ?_
    rintro e w1 ⟨rfl, hP1, hB1⟩
    have hfm := hfm w1 hP1
    have hs1 := hB1.size
    clear hnew hP1
    go_wp2_with fail
    refine hfm.mono ?_
    rintro e w2 ⟨v, rfl, ⟨ps, okd, okS, rfl, hP2, hS2, hap2, hgd2, hgs2⟩, hC2⟩
    have hB2 : Below w.heap.size w w2 := hB1.trans (hC2.below_ (B := w.heap.size) hs1 (fun k hk => hk.1))
    have h0 : OwnSys w w2 (w.heap.size + 1) ps S (fun k => okd k ∧ k < w2.heap.size) (fun k => okS k ∧ k < w2.heap.size) :=
      ⟨hP2.bound, hS2.bound, fun k h1 h2 => hap2 k h1.1 h2.1, fun k hk => ⟨(hgd2 k hk.1).elim (fun e => e.1) (fun e => Nat.le_trans hs1 e), hk.2⟩, fun k hk => ⟨Nat.le_trans hs1 (hgs2 k hk.1), hk.2⟩, hB2⟩
    have H0 := hid h0
    clear hfm hP2 hS2 hap2 hgd2 hgs2 hC2 hB2 hB1 h0
    go_wp2
    go_ret2
    exact ⟨_, _, S, rfl, ⟨_, _, H0.out⟩, hS.out.1, hS.out.2.1, hS.out.2.2.1, hS.out.2.2.2.1, hS.out.2.2.2.2⟩
theorem SysOut.lower {w w0 w1 : World} {okd okS : Nat → Prop} {p pd : Nat} {S : SM} (h : SysOut w0 w1 okd okS p pd S) (hs : w.heap.size ≤ w0.heap.size) : SysOut w w1 okd okS p pd S := by
  obtain ⟨a, b, h1, h2, h3, h4, h5⟩ := h
  exact ⟨a, b, h1, h2, h3, fun k hk => (h4 k hk).imp id (fun e => Nat.le_trans hs e), fun k hk => (h5 k hk).imp id (fun e => Nat.le_trans hs e)⟩
/-- A change, by an Op. -/
def chF (S : SM) (o : Op24) : Int × SM := if o.kind = 1 then putF S o.key o.data else if o.kind = 2 then delF S o.key else (0, S)
set_option maxRecDepth 100000 in
set_option maxHeartbeats 2000000 in
theorem change_any {w : World} {okd ok okb : Nat → Prop} {p pd : Nat} {S : SM} {o : Op24} {A : Option Addr} {c : Nat} (hd : PDisk w okd pd S.D) (h : PSto w ok p pd S) (hwf : S.wf) (hm : Room S.D) (hdead : S.dead = false)
    (hod : ∀ j, okd j → j < w.heap.size) (hos : ∀ j, ok j → j < w.heap.size) (hap : apart okd ok) (hF : RB w okb A o.data) (hc : o.data.length ≤ c) (ho : o.ok) :
    Calls Tryz.prog 19 #[.pointer (some ⟨p, 0, none⟩), .agg (opA o A c)] w fun e w' => e = .returned (.int .i64 (chF S o).1) ∧ SysOut w w' okd ok p pd (chF S o).2 ∧ Chg (fun j => okd j ∨ ok j) w w' := by
  have hB0 := below_alloc (Below.refl w.heap.size w) (.cells (opA o A c) 41)
  have hx0 := heap_alloc_new w (.cells (opA o A c) 41)
  have hd0 := hd.step (fun k _ hk => hB0.block k hk)
  have h0 := h.below hB0
  have hF0 := RB_below hF hB0
  have hod0 : ∀ j, okd j → j < (w.alloc (.cells (opA o A c) 41)).heap.size := fun j hj => Nat.lt_of_lt_of_le (hod j hj) hB0.size
  have hos0 : ∀ j, ok j → j < (w.alloc (.cells (opA o A c) 41)).heap.size := fun j hj => Nat.lt_of_lt_of_le (hos j hj) hB0.size
  obtain ⟨R, hR⟩ : ∃ R, chF S o = R := ⟨_, rfl⟩
  rw [hR]
  have HR := hid hR
  clear hR hd h hF
  unfold opA at *
  by_cases h1 : o.kind = 1
  · have hR := HR.out
    unfold chF at hR
    rw [if_pos h1] at hR
    have hput := fun (W : World) (hB : Below (w.alloc (.cells #[.int .i64 o.kind, .int .i64 o.n, .string o.key, .slice A o.data.length c] 41)).heap.size (w.alloc (.cells #[.int .i64 o.kind, .int .i64 o.n, .string o.key, .slice A o.data.length c] 41)) W) (okq : Nat → Prop) (A' : Option Addr) (c' : Nat) (hF' : RB W okq A' o.data) (hc' : o.data.length ≤ c') =>
      sput_alive (k := o.key) (hd0.step (fun k _ hk => hB.block k hk)) (h0.below hB) hwf hm hdead (fun j hj => Nat.lt_of_lt_of_le (hod0 j hj) hB.size) (fun j hj => Nat.lt_of_lt_of_le (hos0 j hj) hB.size) hap hF' hc' ho.data.1 (by have := ho.key; omega)
    rw [hR] at hput
    have hdl := ho.data.2
    have HX := hid (And.intro hB0 (And.intro hod hos))
    clear hR HR hd0 h0 hod0 hos0 hod hos hB0 ho hc
    obtain ⟨kd, n, k, d⟩ := o
    dsimp only at h1 hx0 hput hF0 hdl HX ⊢
    subst h1
    go_enter Tryz.func19, Tryz.ntmps19
    go_wp2_with fail
    obtain ⟨w0, hw0⟩ : ∃ w0, w.alloc (.cells #[.int .i64 1, .int .i64 n, .string k, .slice A d.length c] 41) = w0 := ⟨_, rfl⟩
    rw [hw0] at hx0 hput hF0 HX
    have hx0d : w0.drew.heap[w.heap.size]? = some (.cells #[.int .i64 1, .int .i64 n, .string k, .slice A d.length c] 41 (0, 0)) := hx0
    simp only [hw0]
    clear hw0
    refine wp_region_plan [] (.take 0 (.take 1 (.take 2 (.take 4 (.take 5 (.run 3 (.run 6 (.run 7 (.take 8 .done))))))))) (fun W => W.heap[w.heap.size]? = some (.cells #[.int .i64 1, .int .i64 n, .string k, .slice A d.length c] 41 (0, 0))) (by kernel_rfl) (by kernel_rfl) (fun c a d v w h => by cases d <;> exact h) hx0d ?_
    iterate 5 (apply plan_take rfl rfl; (case hy => (intro w' hS; have s1 := cell_of_row _ _ 2 _ _ _ hS; have s2 := cell_of_row _ _ 3 _ _ _ hS; simp at s1 s2; clear hS; go_simp; try exact rfl)); go_simp)
    refine plan_run_on rfl rfl (fun J hJ => ?_)
    go_simp
    have hb1 : Below w0.heap.size w0 (w0.alloc (.cells #[] 5)).drew := below_drew (below_alloc (Below.refl _ _) _)
    have ho1 : (w0.alloc (.cells #[] 5)).drew.ownsRow w0.heap.size 5 1 (.slice (some ⟨w0.heap.size, 0, none⟩) 0 0) ([] : List Int).length (nums .u8 []) := World.ownsRow_made (base := w0.heap.size) w0 #[] 0 (Nat.le_refl _) (Nat.zero_le _) rfl
    have hx1 := (hb1.block _ (blk_lt hx0)).trans hx0
    have hF1 := RB_below hF0 hb1
    have hs1 : w0.heap.size ≤ (w0.alloc (.cells #[] 5)).drew.heap.size := hb1.size
    generalize (w0.alloc (.cells #[] 5)).drew = w1 at hb1 ho1 hx1 hF1 hs1 ⊢
    refine hJ _ _ _ (fun _ h => h) hx1 ?_
    clear hJ J hx0d hF0
    go_simp
    refine plan_run_on rfl rfl (fun J hJ => ?_)
    refine step_append_row (w0 := w0) w0.heap.size (.tmp 12) (.tmp 14) 25 5 .u8 1 rfl Tryz.underlying25 info_u8 (by decide) _ [] d A d.length c rfl rfl ho1 (RB_int hF1) hb1 hs1 (by simp; omega) ?_
    intro v2 w2 ho2 hb2 hg2 hat2
    have hR2 : KB.R 5 w2 w0.heap.size (fun k => w0.heap.size ≤ k) v2 d := Rown (by simpa using ho2) (fun q hq => own_base ho2 q hq)
    obtain ⟨A2, c2, rfl, hle2, _⟩ := Kd.R_reads hR2
    have hx2 := (hb2.block _ (blk_lt hx0)).trans hx0
    have hput := hput w2 hb2 _ A2 c2 (R_RB hR2).2 hle2
    have hs2 := hb2.size
    have HB2 := hid hb2
    refine hJ _ _ _ (fun _ h => h) hx2 ?_
    clear hJ J hx1 hF1 hb1 ho1 ho2 hg2 hat2 hR2 hb2
    go_simp
    refine plan_run_on rfl rfl (fun J hJ => ?_)
    go_simp
    refine hput.mono ?_
    rintro e w3 ⟨rfl, hS, hC⟩
    have hx3 := (hC.block w.heap.size (blk_lt hx2) (fun hk => by rcases hk with hk | hk; (have := HX.out.2.1 _ hk; omega); (have := HX.out.2.2 _ hk; omega))).trans hx2
    have hsb := HX.out.1.size
    have hS3 := hS.lower (w := w) (Nat.le_trans hsb hs2)
    have hC3 := (Chg.of_below (HX.out.1.trans (HB2.out.mono hsb)) (fun j => okd j ∨ ok j)).then_ hC (fun k hk => .inl hk)
    have HF := hid (And.intro hS3 hC3)
    refine hJ _ _ _ (fun _ h => h) hx3 ?_
    clear hJ J hS hC hS3 hC3 hput hx2 hx0 HX HB2
    go_simp
    apply plan_take rfl rfl
    case hy => (intro w' hS; clear hS; go_simp; try exact rfl)
    go_simp
    refine plan_done ?_
    go_wp2
    go_ret
    exact ⟨rfl, HF.out⟩
  · by_cases h2 : o.kind = 2
    · have hsd := sdel_alive (k := o.key) hd0 h0 hwf hm hdead hod0 hos0 hap (by have := ho.key; omega)
      have hR := HR.out
      unfold chF at hR
      rw [if_neg h1, if_pos h2] at hR
      rw [hR] at hsd
      have HX := hid (And.intro hB0 (And.intro hod hos))
      clear hR HR hd0 h0 hF0 hod0 hos0 hod hos hB0 ho hc
      obtain ⟨kd, n, k, d⟩ := o
      dsimp only at h1 h2 hx0 hsd HX ⊢
      subst h2
      generalize d.length = L at hx0 hsd HX ⊢
      go_enter Tryz.func19, Tryz.ntmps19
      go_wp2_with fail
      refine hsd.mono ?_
      rintro e w1 ⟨rfl, hS, hC⟩
      have hS1 := hS.lower HX.out.1.size
      have hC1 := (Chg.of_below HX.out.1 (fun j => okd j ∨ ok j)).then_ hC (fun k hk => .inl hk)
      have HF := hid (And.intro hS1 hC1)
      clear hS hC hS1 hC1 hsd
      go_wp2
      go_ret
      exact ⟨rfl, HF.out⟩
    · have n1 : (o.kind == 1) = false := by simpa using h1
      have n2 : (o.kind == 2) = false := by simpa using h2
      have hR := HR.out
      unfold chF at hR
      rw [if_neg h1, if_neg h2] at hR
      subst hR
      have HX := hid (show SysOut w (w.alloc (.cells #[.int .i64 o.kind, .int .i64 o.n, .string o.key, .slice A o.data.length c] 41)) okd ok p pd S ∧ Chg (fun j => okd j ∨ ok j) w (w.alloc (.cells #[.int .i64 o.kind, .int .i64 o.n, .string o.key, .slice A o.data.length c] 41)) from ⟨⟨okd, ok, hd0, h0, hap, fun k hk => .inl hk, fun k hk => .inl hk⟩, Chg.of_below hB0 _⟩)
      clear HR hd0 h0 hF0 hod0 hos0 hod hos hB0 ho hc h1 h2
      generalize o.kind = kd at n1 n2 hx0 HX ⊢
      generalize o.data.length = L at hx0 HX ⊢
      go_enter Tryz.func19, Tryz.ntmps19
      go_wp2
      go_ret
      exact ⟨rfl, HX.out⟩
end Go.Proofs.YticogmpafehomaaGreatDoor

set_option linter.unusedVariables false
set_option linter.unusedSimpArgs false
namespace Go.Proofs.YticogmpafehomaaGreatDoor
open Go.RowKit Go.Maps Go.Proofs.YticogmpafehomaaGreatDoorW.PrintWords Go.Proofs.YticogmpafehomaaGreatDoorW.PrintMore

structure RawE where
  k : ByteArray
  A : Option Addr
  n : Nat
  c : Nat
abbrev KSv : Kd (Option Addr × Nat × Nat) := Kd.scalar (fun x => Value.slice x.1 x.2.1 x.2.2) (fun _ => rfl)
abbrev KRawE : Kd RawE := Kd.iso (Kd.pair Kd.string KSv) (fun r => (r.k, r.A, r.n, r.c))
/-- What a raw entry says. -/
structure RawE.of (r : RawE) (w : World) (ok : Nat → Prop) (x : ByteArray × List Int) : Prop where
  k : r.k = x.1
  n : r.n = x.2.length
  c : x.2.length ≤ r.c
  b : RB w ok r.A x.2
/-- A row of entries that is read; all that it leads to lies in ok. -/
def RowE (w : World) (ok : Nat → Prop) (A : Option Addr) (n : Nat) (xs : Ent) : Prop :=
  n = xs.length ∧ (∀ ad, A = some ad → ∃ g, ad = ⟨g, 0, none⟩) ∧ ∃ raws : List RawE, raws.length = n ∧ KRawE.F w ok A n raws ∧ ∀ (i : Nat) (r : RawE) (x : ByteArray × List Int), raws[i]? = some r → xs[i]? = some x → r.of w ok x
theorem RawE.of.step {r : RawE} {w w1 : World} {ok : Nat → Prop} {x : ByteArray × List Int} (h : r.of w ok x) (hm : ∀ k, ok k → k < w.heap.size → w1.heap[k]? = w.heap[k]?) : r.of w1 ok x := ⟨h.k, h.n, h.c, Kd.F_step h.b hm⟩
theorem RawE.of.mono {r : RawE} {w : World} {ok ok' : Nat → Prop} {x : ByteArray × List Int} (h : r.of w ok x) (hs : ∀ k, ok k → ok' k) : r.of w ok' x := ⟨h.k, h.n, h.c, Kd.F_mono h.b hs⟩
theorem RowE.step {w w1 : World} {ok : Nat → Prop} {A : Option Addr} {n : Nat} {xs : Ent} (h : RowE w ok A n xs) (hm : ∀ k, ok k → k < w.heap.size → w1.heap[k]? = w.heap[k]?) : RowE w1 ok A n xs := by
  obtain ⟨h1, h2, raws, h3, h4, h5⟩ := h
  exact ⟨h1, h2, raws, h3, Kd.F_step h4 hm, fun i r x hr hx => (h5 i r x hr hx).step hm⟩
theorem RowE.mono {w : World} {ok ok' : Nat → Prop} {A : Option Addr} {n : Nat} {xs : Ent} (h : RowE w ok A n xs) (hs : ∀ k, ok k → ok' k) : RowE w ok' A n xs := by
  obtain ⟨h1, h2, raws, h3, h4, h5⟩ := h
  exact ⟨h1, h2, raws, h3, Kd.F_mono h4 hs, fun i r x hr hx => (h5 i r x hr hx).mono hs⟩
theorem RowE.bound {w : World} {ok : Nat → Prop} {A : Option Addr} {n : Nat} {xs : Ent} (h : RowE w ok A n xs) : RowE w (fun k => ok k ∧ k < w.heap.size) A n xs := by
  obtain ⟨h1, h2, raws, h3, h4, h5⟩ := h
  exact ⟨h1, h2, raws, h3, Kd.F_bound h4, fun i r x hr hx => ⟨(h5 i r x hr hx).k, (h5 i r x hr hx).n, (h5 i r x hr hx).c, Kd.F_bound (h5 i r x hr hx).b⟩⟩
theorem RowE.below {w w1 : World} {ok : Nat → Prop} {A : Option Addr} {n : Nat} {xs : Ent} (h : RowE w ok A n xs) (hb : Below w.heap.size w w1) : RowE w1 ok A n xs := h.step (fun k _ hk => hb.block k hk)
theorem RowE.nil (w : World) (ok : Nat → Prop) : RowE w ok none 0 [] :=
  ⟨rfl, fun _ h => (by cases h), [], rfl, fun _ _ => ⟨rfl, by omega, fun h => absurd h (by omega)⟩, fun i r x hr => by simp at hr⟩
theorem KRawE_K {w : World} {r : RawE} {cs : List Value} (h : KRawE.K w r cs) : cs = [.string r.k, .slice r.A r.n r.c] := by
  obtain ⟨c0, c1, rfl, h0, h1⟩ := h
  obtain rfl : c0 = [.string r.k] := h0
  obtain rfl : c1 = [.slice r.A r.n r.c] := h1
  rfl
theorem RowE.at_ {w : World} {ok : Nat → Prop} {A : Option Addr} {n : Nat} {xs : Ent} (h : RowE w ok A n xs) {i : Nat} (hi : i < xs.length) :
    ∃ g B c, A = some ⟨g, 0, none⟩ ∧ w.cell? ⟨g, i * 2, none⟩ = some (.string xs[i].1) ∧ w.cell? ⟨g, i * 2 + 1, none⟩ = some (.slice B xs[i].2.length c) ∧ xs[i].2.length ≤ c ∧ RB w ok B xs[i].2 := by
  obtain ⟨h1, h2, raws, h3, h4, h5⟩ := h
  have hir : i < raws.length := by omega
  obtain ⟨ad, cs, hA, hcs, hK, hcell⟩ := Kd.C_get (Kd.F_now h4) ⟨ByteArray.empty, none, 0, 0⟩ (i : Int) (by omega) (by omega)
  obtain ⟨g, rfl⟩ := h2 ad hA
  simp only [Int.toNat_natCast] at hK hcell
  have hget : raws.getD i ⟨ByteArray.empty, none, 0, 0⟩ = raws[i] := by simp [List.getD_eq_getElem?_getD, hir]
  rw [hget] at hK
  obtain rfl := KRawE_K hK
  have ho := h5 i raws[i] xs[i] (List.getElem?_eq_getElem hir) (List.getElem?_eq_getElem hi)
  have hadd : ∀ g o j : Nat, (⟨g, o, none⟩ : Addr).add j = ⟨g, o + j, none⟩ := fun g o j => by unfold Addr.add; by_cases hj : j = 0 <;> simp [hj]
  have c0 := hcell 0 _ rfl
  have c1 := hcell 1 _ rfl
  rw [hadd] at c0 c1
  rw [ho.k] at c0
  rw [ho.n] at c1
  have hsz : KRawE.sz = 2 := rfl
  rw [hsz] at c0 c1
  refine ⟨g, raws[i].A, raws[i].c, hA, by simpa using c0, by simpa using c1, ho.c, ho.b⟩
/-- What State hands out is such a row. -/
theorem ent_row {w : World} {base : Nat} {ok : Nat → Prop} {A : Option Addr} {n c : Nat} {xs : Ent} (h : KEnt.R 122 w base ok (.slice A n c) xs) : RowE w ok A n xs := by
  obtain ⟨A', c', he, _, _⟩ := Kd.R_reads h
  injection he with _ hn _
  subst hn
  obtain ⟨h0, inner, ho, hr⟩ := h
  have hex : ∀ j : Fin xs.length, ∃ r : RawE, (inner.drop (j.1 * 2)).take 2 = [.string r.k, .slice r.A r.n r.c] ∧ r.of w ok xs[j.1] := fun j => by
    obtain ⟨c0, c1, hcs, h1, v, h2, h3⟩ := hr.2 j.1 xs[j.1] (List.getElem?_eq_getElem j.2)
    obtain ⟨A2, c2, rfl, hle, _⟩ := Kd.R_reads h3
    obtain rfl : c0 = [.string xs[j.1].1] := h1
    subst h2
    exact ⟨⟨xs[j.1].1, A2, xs[j.1].2.length, c2⟩, hcs, rfl, rfl, hle, Kd.F_mono (R_RB h3).2 (fun k hk => hk.1)⟩
  obtain ⟨f, hf⟩ : ∃ f : Fin xs.length → RawE, ∀ j, (inner.drop (j.1 * 2)).take 2 = [.string (f j).k, .slice (f j).A (f j).n (f j).c] ∧ (f j).of w ok xs[j.1] := ⟨fun j => Classical.choose (hex j), fun j => Classical.choose_spec (hex j)⟩
  have hf1 := fun j => (hf j).1
  have hf2 := fun j => (hf j).2
  have hlen : (List.ofFn f).length = xs.length := by simp
  have hreps : ∀ W, Reps (KRawE.K W) 2 (List.ofFn f) inner := fun W => by
    refine ⟨by rw [hlen]; exact hr.1, fun j p hj => ?_⟩
    obtain ⟨hl, hp⟩ := List.getElem?_eq_some_iff.1 hj
    have hjx : j < xs.length := by rw [hlen] at hl; exact hl
    simp only [List.getElem_ofFn] at hp
    subst hp
    rw [hf1 ⟨j, hjx⟩]
    exact ⟨[.string (f ⟨j, hjx⟩).k], [.slice (f ⟨j, hjx⟩).A (f ⟨j, hjx⟩).n (f ⟨j, hjx⟩).c], rfl, rfl, rfl⟩
  refine ⟨rfl, fun ad had => ?_, List.ofFn f, hlen, fun W' hW => ?_, fun i r x hi hx => ?_⟩
  · subst had
    rcases ho.2 with ⟨e, _⟩ | ⟨g, cap, cur, e, _⟩
    · cases e
    · injection e with e; injection e with e; exact ⟨g, e⟩
  · have ho' := own_move (w1 := W') ho (fun k hk => hW k (h0 k hk) (own_lt ho k hk))
    obtain ⟨A2, c2, he2, hrd⟩ := own_reads_row ho' (hreps W') hlen
    injection he2 with e1 _ _
    subst e1
    exact hrd
  · obtain ⟨hl, hp⟩ := List.getElem?_eq_some_iff.1 hi
    obtain ⟨hl2, hp2⟩ := List.getElem?_eq_some_iff.1 hx
    simp only [List.getElem_ofFn] at hp
    subst hp hp2
    exact hf2 ⟨i, hl2⟩
end Go.Proofs.YticogmpafehomaaGreatDoor

set_option linter.unusedVariables false
set_option linter.unusedSimpArgs false
namespace Go.Proofs.YticogmpafehomaaGreatDoor
open Go.RowKit Go.Maps Go.Proofs.YticogmpafehomaaGreatDoorW.PrintWords Go.Proofs.YticogmpafehomaaGreatDoorW.PrintMore

theorem take_succ_eq {α : Type} {xs ys : List α} {k : Nat} (hx : k < xs.length) (hy : k < ys.length) : (xs.take (k + 1) = ys.take (k + 1)) ↔ (xs.take k = ys.take k ∧ xs[k] = ys[k]) := by
  rw [← List.take_append_getElem hx, ← List.take_append_getElem hy]
  constructor
  · intro h
    have := List.append_inj h (by rw [List.length_take, List.length_take]; omega)
    exact ⟨this.1, by simpa using this.2⟩
  · rintro ⟨h1, h2⟩; rw [h1, h2]
theorem str_toL {a b : ByteArray} : (a.toList == b.toList) = decide (a = b) := by
  rw [Bool.eq_iff_iff, beq_iff_eq, decide_eq_true_eq]
  constructor
  · intro hh
    rw [ByteArray.toList_eq, ByteArray.toList_eq] at hh
    cases a; cases b
    simp only [ByteArray.mk.injEq]
    exact Array.toList_inj.1 hh
  · rintro rfl; rfl
set_option maxRecDepth 100000 in
set_option maxHeartbeats 4000000 in
theorem same_any {w : World} {okx oky : Nat → Prop} {A B : Option Addr} {n m cA cB : Nat} {xs ys : Ent} (hx : RowE w okx A n xs) (hy : RowE w oky B m ys) (hn : n ≤ 65536) (hm : m ≤ 65536) (hbx : ∀ x ∈ xs, Bytes x.2) (hby : ∀ y ∈ ys, Bytes y.2) :
    Calls Tryz.prog 25 #[.slice A n cA, .slice B m cB] w fun e w' => e = .returned (.bool (decide (xs = ys))) ∧ Below w.heap.size w w' := by
  have hnx : n = xs.length := hx.1
  have hny : m = ys.length := hy.1
  obtain ⟨q, hq⟩ : ∃ q, decide (xs = ys) = q := ⟨_, rfl⟩
  rw [hq]
  by_cases hnm : n = m
  · subst hnm
    have HQ := hid (And.intro hq (And.intro hnx (And.intro hny (And.intro hx hy))))
    clear hq hx hy hnx hny hm
    have HBB := hid (And.intro hbx hby)
    clear hbx hby
    go_enter Tryz.func25, Tryz.ntmps25
    go_wp2_with fail
    go_loopw [5] (fun i wr => ∃ k : Nat, k ≤ n ∧ i = .int .i64 k ∧ Hid (xs.take k = ys.take k) ∧ Below w.heap.size w wr) (fun i _ => n - (intOf i).toNat)
    case atStart => exact ⟨0, Nat.zero_le _, rfl, hid rfl, Below.refl _ _⟩
    case round =>
      obtain ⟨k, hk, rfl, htk, hB⟩ := hrel
      obtain ⟨hq, hnx, hny, hx, hy⟩ := HQ.out
      by_cases hlt : k < n
      · have hltI : (k : Int) < (n : Int) := by omega
        have hkx : k < xs.length := by omega
        have hky : k < ys.length := by omega
        have hxw := hx.below hB
        have hyw := hy.below hB
        obtain ⟨g1, B1, c1, rfl, x0, x1, _, hb1⟩ := hxw.at_ hkx
        obtain ⟨g2, B2, c2, rfl, y0, y1, _, hb2⟩ := hyw.at_ hky
        have hiff := take_succ_eq hkx hky
        have hby1 := HBB.out.1 _ (List.getElem_mem hkx)
        have hby2 := HBB.out.2 _ (List.getElem_mem hky)
        have hall : q = true → xs[k] = ys[k] := fun h => by
          have he : xs = ys := by rw [h] at hq; exact of_decide_eq_true hq
          subst he; rfl
        generalize xs[k] = X at x0 x1 hb1 hiff hby1 hall
        generalize ys[k] = Y at y0 y1 hb2 hiff hby2 hall
        obtain ⟨xk, xv⟩ := X
        obtain ⟨yk, yv⟩ := Y
        dsimp only at x0 x1 y0 y1 hb1 hb2 hby1 hby2
        have hst := str_toL (a := xk) (b := yk)
        have hsm := fun W (hW : Below wr.heap.size wr W) => sameB_any (c := c1) (c' := c2) (Kd.F_now (RB_below hb1 hW)) hby1 (Kd.F_now (RB_below hb2 hW)) hby2
        have HI := hid (And.intro hiff hall)
        clear hiff hall hxw hyw hx hy hq hnx hny hby1 hby2 hb1 hb2
        by_cases hke : xk = yk
        · subst hke
          have hsd := hsm wr.drew (below_drew (Below.refl _ _))
          clear hst
          by_cases hve : xv = yv
          · subst hve
            rw [decide_eq_true rfl] at hsd
            have htk1 := HI.out.1.2 ⟨htk.out, rfl⟩
            have HT := hid htk1
            clear htk1 hsm
            go_wp2_with fail
            refine wp_region_plan [] (.take 0 (.take 1 (.take 2 (.take 3 (.take 4 (.take 5 (.take 6 (.take 7 (.take 8 (.take 9 (.take 10 (.take 11 (.take 12 (.take 13 (.take 14 (.take 15 (.take 16 (.take 17 (.take 18 (.take 19 (.take 20 (.take 21 (.run 22 (.take 23 (.take 24 .done))))))))))))))))))))))))) (fun w' => Below wr.heap.size wr w') (by kernel_rfl) (by kernel_rfl) (fun c a d v w h => by cases d <;> exact h) (below_drew (Below.refl _ _)) ?_
            iterate 22 (apply plan_take rfl rfl; (case hy => (intro w' hS; have f0 := pw_cell_below hS x0; have f1 := pw_cell_below hS x1; have f2 := pw_cell_below hS y0; have f3 := pw_cell_below hS y1; clear hS; go_simp; try exact rfl)); go_simp)
            refine plan_run_on rfl rfl (fun J hJ => ?_)
            go_simp
            refine hsd.mono ?_
            rintro e w' ⟨rfl, rfl⟩
            refine hJ _ _ _ (fun _ h => h) (below_drew (Below.refl _ _)) ?_
            clear hJ J hsd
            go_simp
            iterate 2 (apply plan_take rfl rfl; (case hy => (intro w' hS; clear hS; go_simp; try exact rfl)); go_simp)
            refine plan_done ?_
            clear x0 x1 y0 y1
            go_wp2_with fail
            go_roundw
            case rel => exact ⟨k + 1, by omega, by go_num, HT, hB.drew⟩
            case measure => simp [intOf]; omega
          · rw [decide_eq_false hve] at hsd
            have hqf : q = false := by
              cases q with
              | false => rfl
              | true =>
                have := HI.out.2 rfl
                injection this with _ h2
                exact absurd h2 hve
            subst hqf
            clear hsm
            go_wp2_with fail
            refine wp_region_plan [] (.take 0 (.take 1 (.take 2 (.take 3 (.take 4 (.take 5 (.take 6 (.take 7 (.take 8 (.take 9 (.take 10 (.take 11 (.take 12 (.take 13 (.take 14 (.take 15 (.take 16 (.take 17 (.take 18 (.take 19 (.take 20 (.take 21 (.run 22 (.take 23 (.take 24 .done))))))))))))))))))))))))) (fun w' => Below wr.heap.size wr w') (by kernel_rfl) (by kernel_rfl) (fun c a d v w h => by cases d <;> exact h) (below_drew (Below.refl _ _)) ?_
            iterate 22 (apply plan_take rfl rfl; (case hy => (intro w' hS; have f0 := pw_cell_below hS x0; have f1 := pw_cell_below hS x1; have f2 := pw_cell_below hS y0; have f3 := pw_cell_below hS y1; clear hS; go_simp; try exact rfl)); go_simp)
            refine plan_run_on rfl rfl (fun J hJ => ?_)
            go_simp
            refine hsd.mono ?_
            rintro e w' ⟨rfl, rfl⟩
            refine hJ _ _ _ (fun _ h => h) (below_drew (Below.refl _ _)) ?_
            clear hJ J hsd
            go_simp
            iterate 2 (apply plan_take rfl rfl; (case hy => (intro w' hS; clear hS; go_simp; try exact rfl)); go_simp)
            refine plan_done ?_
            clear x0 x1 y0 y1
            go_wp2
            go_ret
            exact ⟨rfl, hB.drew⟩
        · rw [decide_eq_false hke] at hst
          have hqf : q = false := by
            cases q with
            | false => rfl
            | true =>
              have := HI.out.2 rfl
              injection this with h1 _
              exact absurd h1 hke
          subst hqf
          clear hsm hke
          go_wp2_with fail
          refine wp_region_plan [] (.take 0 (.take 1 (.take 2 (.take 3 (.take 4 (.take 5 (.take 6 (.take 7 (.take 8 (.take 9 (.take 10 (.take 11 (.take 12 (.take 13 (.take 14 (.take 15 (.take 16 (.take 17 (.take 18 (.take 19 (.take 20 (.take 21 (.run 22 (.take 23 (.take 24 .done))))))))))))))))))))))))) (fun w' => Below wr.heap.size wr w') (by kernel_rfl) (by kernel_rfl) (fun c a d v w h => by cases d <;> exact h) (below_drew (Below.refl _ _)) ?_
          iterate 12 (apply plan_take rfl rfl; (case hy => (intro w' hS; have f0 := pw_cell_below hS x0; have f1 := pw_cell_below hS x1; have f2 := pw_cell_below hS y0; have f3 := pw_cell_below hS y1; clear hS; go_simp; try exact rfl)); go_simp)
          iterate 10 (refine plan_skip rfl rfl ?_; go_simp)
          refine plan_run_off rfl rfl (below_drew (Below.refl _ _)) ?_
          go_simp
          refine plan_skip rfl rfl ?_
          go_simp
          (apply plan_take rfl rfl; (case hy => (intro w' hS; clear hS; go_simp; try exact rfl)); go_simp)
          refine plan_done ?_
          clear x0 x1 y0 y1
          go_wp2
          go_ret
          exact ⟨rfl, hB.drew⟩
      · obtain rfl : k = n := by omega
        have he : xs = ys := by
          have := htk.out
          rwa [List.take_of_length_le (by omega), List.take_of_length_le (by omega)] at this
        have hqt : q = true := by rw [← hq]; exact decide_eq_true he
        subst hqt
        clear hx hy hq HBB HQ
        go_wp2
        go_ret
        exact ⟨rfl, hB⟩
  · have hqf : q = false := by
      rw [← hq]
      apply decide_eq_false
      rintro rfl
      omega
    subst hqf
    have hne : ((n : Int) != (m : Int)) = true := by
      have : ¬ (n : Int) = (m : Int) := by omega
      simpa using this
    clear hq hx hy hnx hny hbx hby hnm
    go_enter Tryz.func25, Tryz.ntmps25
    go_wp2
    go_ret
    exact ⟨rfl, Below.refl _ _⟩
end Go.Proofs.YticogmpafehomaaGreatDoor

set_option linter.unusedVariables false
set_option linter.unusedSimpArgs false
namespace Go.Proofs.YticogmpafehomaaGreatDoor
open Go.RowKit Go.Proofs.YticogmpafehomaaGreatDoorW.PrintWords Go.Proofs.YticogmpafehomaaGreatDoorW.PrintMore

/-- A state with a change. -/
def withE (E : Ent) (o : Op24) : Ent := if o.kind = 1 then putE o.key o.data E else if o.kind = 2 then delE o.key E else E
theorem sopen_any {w : World} {ok : Nat → Prop} {p : Nat} {D : DM} (h : PDisk w ok p D) :
    Calls Tryz.prog 24 #[.pointer (some ⟨p, 0, none⟩)] w fun e w' => ∃ v, e = .returned (.tuple #[v, .int .i64 (openF D).1]) ∧ OpenP w w' p v (openF D).2 ∧ Below w.heap.size w w' := by
  by_cases hg : D.gone = true
  · rw [openF_gone hg]
    refine (sopen_gone h hg).mono ?_
    rintro e w' ⟨rfl, hB⟩
    exact ⟨_, rfl, rfl, hB⟩
  · exact sopen_ok h (by simpa using hg)
/-- Open of a store as it should be. -/
theorem sopen_good {w : World} {ok : Nat → Prop} {p : Nat} {S : SM} {l : List SR} (h : PDisk w ok p S.D) (hg : Good S l) :
    Calls Tryz.prog 24 #[.pointer (some ⟨p, 0, none⟩)] w fun e w' => ∃ ps, e = .returned (.tuple #[.pointer (some ⟨ps, 0, none⟩), .int .i64 0]) ∧ PSto w' (fun k => w.heap.size ≤ k) ps p S ∧ Below w.heap.size w w' := by
  have := sopen_any h
  rw [hg.opens] at this
  refine this.mono ?_
  rintro e w' ⟨v, rfl, ⟨ps, rfl, hP⟩, hB⟩
  exact ⟨ps, rfl, hP, hB⟩
/-! ### Rows of changes -/
theorem op24_at {w : World} {ad : Addr} {n : Nat} {l : List Op24} (h : KOp24.C w (some ad) n l) {i : Nat} (hi : i < l.length) :
    ∃ B c, (∀ j v, (opA l[i] B c).toList[j]? = some v → w.cell? ((ad.add (i * 4)).add j) = some v) ∧ l[i].data.length ≤ c ∧ KB.C w B l[i].data.length l[i].data := by
  have hn : l.length = n := h.1
  obtain ⟨ad', cs, hA, hcs, hK, hcell⟩ := Kd.C_get h ⟨0, 0, ByteArray.empty, []⟩ (i : Int) (by omega) (by omega)
  injection hA with hA
  subst hA
  simp only [Int.toNat_natCast] at hK hcell
  have hget : l.getD i ⟨0, 0, ByteArray.empty, []⟩ = l[i] := by simp [List.getD_eq_getElem?_getD, hi]
  rw [hget] at hK
  obtain ⟨B, c, rfl, hl, hC⟩ := KOp24_open hK
  refine ⟨B, c, fun j v hj => ?_, hl, hC⟩
  have h3 := hcell j v hj
  rw [add_add']
  exact h3
theorem RB_of_C9 {w : World} {A : Option Addr} {b : List Int} (h : KB.C w A b.length b) : RB w (fun k => k < w.heap.size) A b := fun W' hW => by
  have h2 := C_int h
  refine Kd.C_of_reads (enc := Value.int .u8) (d := (0 : Int)) (h1 := fun _ => rfl) ⟨rfl, h2.2.1, fun hp => ?_⟩
  obtain ⟨ad, he, hc⟩ := h2.2.2 hp
  refine ⟨ad, he, fun j hj => ?_⟩
  have h3 := hc j hj
  have hb := World.block_lt_of_cell? w _ h3
  have := hW _ hb hb
  rw [← h3]
  simp only [World.cell?, this]
end Go.Proofs.YticogmpafehomaaGreatDoor

set_option linter.unusedVariables false
set_option linter.unusedSimpArgs false
namespace Go.Proofs.YticogmpafehomaaGreatDoor
open Go.RowKit Go.Maps Go.Proofs.YticogmpafehomaaGreatDoorW.PrintWords Go.Proofs.YticogmpafehomaaGreatDoorW.PrintMore

/-- The disk and the store between two changes: k of them have been done. -/
def Between (w wr : World) (pd ps : Nat) (S : SM) (k : Nat) : Prop := (∃ okd okS, OwnSys w wr pd ps S okd okS) ∧ (∃ l, Good S l) ∧ S.D.left < 0 ∧ S.D.ws.length ≤ 1 + 4096 * k
end Go.Proofs.YticogmpafehomaaGreatDoor

set_option linter.unusedVariables false
set_option linter.unusedSimpArgs false
namespace Go.Proofs.YticogmpafehomaaGreatDoor
open Go.RowKit Go.Proofs.YticogmpafehomaaGreatDoorW.PrintWords

theorem ones_len24 {α : Type} {N : Nat} : ∀ {l : List α}, (l.map (fun _ => 1)).sum + 1 ≤ N → l.length ≤ N
  | [], _ => by simp
  | x :: l, h => by
    simp only [List.map_cons, List.sum_cons] at h
    obtain ⟨M, rfl⟩ : ∃ M, N = M + 1 := ⟨N - 1, by omega⟩
    have := ones_len24 (l := l) (N := M) (by omega)
    simp only [List.length_cons]
    omega
theorem opensM_ops24 : OpensM Tryz.prog 39 (Kd.slice 41 KOp24) (fun xs => (∀ x ∈ xs, x.ok) ∧ xs.length * 56 ≤ 140737488351232) (fun xs => (xs.map (fun _ => 1)).sum + 1) :=
  opensM_slice Tryz.underlying39 (by kernel_rfl) (by kernel_rfl) (opens_op24.one)
end Go.Proofs.YticogmpafehomaaGreatDoor

set_option linter.unusedVariables false
set_option linter.unusedSimpArgs false
namespace Go.Proofs.YticogmpafehomaaGreatDoor
open Go.RowKit Go.Proofs.YticogmpafehomaaGreatDoorW.PrintWords Go.Proofs.YticogmpafehomaaGreatDoorW.PrintMore

theorem Good.withD {S : SM} {l : List SR} (h : Good S l) {D : DM} (hb : D.b = S.D.b) (hw : D.wf) (hg : D.gone = false) : Good { S with D := D } l := by
  have hbl : ∀ j, D.blk j = S.D.blk j := fun j => by unfold DM.blk; rw [hb]
  have hn : D.n = S.D.n := by unfold DM.n; rw [hb]
  refine ⟨h.wf.disk hw hn, h.alive, hg, ?_, ?_, ?_, h.opn, h.blk, h.big⟩
  · exact (pick_same (hbl 0) (hbl 1)).trans h.pick
  · dsimp only; rw [baseM_n hn, sizeM_n hn]; exact h.log.same (fun j _ _ => hbl j) hn
  · dsimp only; rw [baseM_n hn, sizeM_n hn]; exact h.H
theorem cut_wf {D : DM} (h : D.wf) {c : Int} (hc : c ≤ 9223372036854775807) : (D.cut c).wf := ⟨h.len, h.lo, h.hi, by simp only [DM.cut]; split <;> omega, by simp only [DM.cut]; split <;> omega, h.bytes, h.wsB⟩
theorem Good.cut {S : SM} {l : List SR} (h : Good S l) {c : Int} (hc : c ≤ 9223372036854775807) : Good { S with D := S.D.cut c } l := h.withD rfl (cut_wf h.wf.d hc) h.gone
theorem Good.on {S : SM} {l : List SR} (h : Good S l) : Good { S with D := onD S.D } l := h.withD rfl (onD_wf h.wf.d) rfl
/-- A change at a cut, and what is opened then. -/
structure CutStep (S : SM) (c : Int) (o : Op24) (R : Int × SM) (S' : SM) : Prop where
  good : ∃ l, Good S' l
  D : S'.D = onD R.2.D
  ws : R.2.D.ws.length ≤ S.D.ws.length + 4096
  wl : S.D.ws.length ≤ R.2.D.ws.length
  res : (R.1 = 0 ∧ R.2.dead = false ∧ S'.E = withE S.E o) ∨ (¬ R.1 = 0 ∧ R.2.dead = false ∧ S'.E = S.E) ∨ (R.1 = 61 ∧ R.2.dead = true ∧ S'.E = S.E ∧ R.2.E = S.E ∧ R.2.wf ∧ 0 ≤ c ∧ (R.2.D.ws.length : Int) - S.D.ws.length = c)
theorem CutStep.same {S : SM} {l : List SR} {c : Int} (hc : c ≤ 9223372036854775807) (h : Good S l) {o : Op24} {R : Int × SM} (hR : R.2 = { S with D := S.D.cut c }) (hres : (R.1 = 0 ∧ S.E = withE S.E o) ∨ ¬ R.1 = 0) : ∃ S', CutStep S c o R S' := by
  refine ⟨{ S with D := onD (S.D.cut c) }, ⟨l, (h.cut hc).on⟩, by rw [hR], by rw [hR]; exact Nat.le_add_right _ _, by rw [hR]; exact Nat.le_refl _, ?_⟩
  rcases hres with ⟨a, b⟩ | a
  · exact .inl ⟨a, by rw [hR]; exact h.alive, b⟩
  · exact .inr (.inl ⟨a, by rw [hR]; exact h.alive, rfl⟩)
theorem ResF.cut {S : SM} {l : List SR} {c : Int} (hc : c ≤ 9223372036854775807) (h : Good S l) {o : Op24} {R : Int × SM} {F : Ent} (hF : F = withE S.E o) (hr : ResF { S with D := S.D.cut c } l R F) : ∃ S', CutStep S c o R S' := by
  rcases hr with ⟨n, d⟩ | ⟨e, b⟩ | ⟨e, b, _⟩ | ⟨n, d⟩
  · obtain ⟨l', hg⟩ := d.good
    refine ⟨{ R.2 with D := onD R.2.D }, ⟨l', hg.on⟩, rfl, ?_, ?_, .inl ⟨d.e, hg.alive, ?_⟩⟩
    · rw [d.ws]; have := d.le; show S.D.ws.length + n ≤ _; omega
    · rw [d.ws]; show S.D.ws.length ≤ S.D.ws.length + n; omega
    · rw [← hF]; exact d.E
  · exact CutStep.same hc h (by rw [e]) (.inr (by rw [e]; simp))
  · exact CutStep.same hc h (by rw [e]) (.inr (by rw [e]; simp))
  · have hws : R.2.D.ws.length = S.D.ws.length + done_ (S.D.cut c).left n := d.ws
    have hlt : ¬ done_ (S.D.cut c).left n = n := d.lt
    have hle := done_le (S.D.cut c).left n
    have hn := d.le
    refine ⟨{ S with D := onD R.2.D }, ⟨l, d.good⟩, rfl, by omega, by omega, .inr (.inr ⟨d.e, d.dead, rfl, d.E, d.wf, ?_⟩)⟩
    have hl : (S.D.cut c).left = if c < -1 then -1 else c := rfl
    rw [hl] at hws hlt
    unfold done_ at hws hlt
    by_cases h0 : c < -1
    · rw [if_pos h0, if_pos (by omega)] at hlt
      exact absurd rfl hlt
    · rw [if_neg h0] at hws hlt
      by_cases h1 : c < 0
      · rw [if_pos h1] at hlt
        exact absurd rfl hlt
      · rw [if_neg h1] at hws hlt
        omega
theorem chF_cut {S : SM} {l : List SR} (h : Good S l) {c : Int} (hc : c ≤ 9223372036854775807) {o : Op24} (ho : o.ok) : ∃ S', CutStep S c o (chF { S with D := S.D.cut c } o) S' := by
  have hg := h.cut hc
  unfold chF
  by_cases h1 : o.kind = 1
  · rw [if_pos h1]
    have hw : withE S.E o = putE o.key o.data S.E := by unfold withE; rw [if_pos h1]
    rcases put_res hg o.key ho.data.1 with ⟨e, _⟩ | ⟨_, e, _⟩ | ⟨_, e, hk⟩ | ⟨_, _, hr⟩
    · exact CutStep.same hc h (by rw [e]) (.inr (by rw [e]; simp))
    · exact CutStep.same hc h (by rw [e]) (.inr (by rw [e]; simp))
    · exact CutStep.same hc h (by rw [e]) (.inl ⟨by rw [e], by rw [hw]; exact (putE_same h.wf.sorted hk).symm⟩)
    · exact hr.cut hc h hw.symm
  · rw [if_neg h1]
    by_cases h2 : o.kind = 2
    · rw [if_pos h2]
      have hw : withE S.E o = delE o.key S.E := by unfold withE; rw [if_neg h1, if_pos h2]
      rcases del_res hg o.key with ⟨e, _⟩ | ⟨_, e, hk⟩ | ⟨_, _, _, hr⟩
      · exact CutStep.same hc h (by rw [e]) (.inr (by rw [e]; simp))
      · exact CutStep.same hc h (by rw [e]) (.inl ⟨by rw [e], by rw [hw]; exact (delE_same hk).symm⟩)
      · exact hr.cut hc h hw.symm
    · rw [if_neg h2]
      exact CutStep.same hc h rfl (.inl ⟨rfl, by unfold withE; rw [if_neg h1, if_neg h2]⟩)
end Go.Proofs.YticogmpafehomaaGreatDoor

set_option linter.unusedVariables false
set_option linter.unusedSimpArgs false
namespace Go.Proofs.YticogmpafehomaaGreatDoor
open Go.RowKit Go.Extern.Stop Go.Stop Go.Extern Go.Proofs.YticogmpafehomaaGreatDoorW.PrintWords Go.Proofs.YticogmpafehomaaGreatDoorW.PrintMore

theorem as_valueOf27 (t : Addr) (w : World) : (ReflectliteValue.unpack (.iface 161 (.pointer (some t)))).run Tryz.prog w
    = .ok (.agg #[.pointer (some ⟨1, 161, none⟩), .pointer (some ⟨w.heap.size, 0, none⟩), .int .u64 150]) (w.alloc (.cells #[.pointer (some t)] 161)) := by kernel_rfl
theorem as_type27 (a : Addr) (w : World) : (ReflectliteValue.methodAny (ReflectliteValue.valueError "reflectlite.Value.Type" 0) (fun t _ _ _ => ReflectliteType.toType t) #[.agg #[.pointer (some ⟨1, 161, none⟩), .pointer (some a), .int .u64 150]]).run Tryz.prog w
    = .ok (.iface 232 (.agg #[.pointer (some ⟨1, 161, none⟩)])) w := by kernel_rfl
theorem as_methodKind (h : Value) (w : World) : (Go.method 413 232 (.agg #[h]) "Kind").run Tryz.prog w = .ok (229, h) w := by kernel_rfl
theorem as_kind27 (w : World) : ((ReflectliteType.abiMethod fun t => (fun a : Nat => Value.int IntKind.u8 (a : Int)) <$> Rtype.kind t) #[.pointer (some ⟨1, 161, none⟩)]).run Tryz.prog w = .ok (.int .u8 22) w := by kernel_rfl
theorem as_kind25 (w : World) : ((ReflectliteType.abiMethod fun t => (fun a : Nat => Value.int IntKind.u8 (a : Int)) <$> Rtype.kind t) #[.pointer (some ⟨1, 159, none⟩)]).run Tryz.prog w = .ok (.int .u8 22) w := by kernel_rfl

theorem rlm (z : Sem Value) (f : TypeId → Addr → Nat → Nat → Sem Value) (v : Value) :
    ReflectliteValue.method z f #[v] = (do match ← ReflectliteValue.parts v with | none => z | some (t, a, fl) => f t a fl (fl % 32)) := rfl
theorem as_parts27 (a : Addr) (w : World) : (ReflectliteValue.parts (.agg #[.pointer (some ⟨1, 161, none⟩), .pointer (some a), .int .u64 150])).run Tryz.prog w = .ok (some (161, a, 150)) w := by kernel_rfl
theorem as_isNil27 (a p : Addr) (W : World) (ha : W.cell? a = some (.pointer (some p))) :
    (ReflectliteValue.method (ReflectliteValue.valueError "reflectlite.Value.IsNil" 0) ReflectliteValue.isNil #[.agg #[.pointer (some ⟨1, 161, none⟩), .pointer (some a), .int .u64 150]]).run Tryz.prog W = .ok (.bool false) W := by
  rw [rlm]
  simp only [Sem.run_bind, as_parts27, Result.andThen]
  simp [ReflectliteValue.isNil, loadVar, isAgg, underlying, Tryz.underlying161, ha, Result.andThen]

theorem as_methodElem (h : Value) (w : World) : (Go.method 413 232 (.agg #[h]) "Elem").run Tryz.prog w = .ok (246, .agg #[h]) w := by kernel_rfl
theorem as_methodImplements (h : Value) (w : World) : (Go.method 413 232 (.agg #[h]) "Implements").run Tryz.prog w = .ok (247, .agg #[h]) w := by kernel_rfl
theorem as_methodAssignableTo (h : Value) (w : World) : (Go.method 413 232 (.agg #[h]) "AssignableTo").run Tryz.prog w = .ok (244, .agg #[h]) w := by kernel_rfl
theorem as_elem27 (w : World) : (ReflectliteType.method ReflectliteType.elem #[.agg #[.pointer (some ⟨1, 161, none⟩)]]).run Tryz.prog w = .ok (.iface 232 (.agg #[.pointer (some ⟨1, 159, none⟩)])) w := by kernel_rfl
theorem as_implements25 (w : World) : (ReflectliteType.relation "Implements" ReflectliteType.implements_ #[.agg #[.pointer (some ⟨1, 159, none⟩)], .iface 232 (.agg #[.pointer (some ⟨1, 99, none⟩)])]).run Tryz.prog w = .ok (.bool true) w := by kernel_rfl
theorem as_typeOf25 (v : Value) (w : World) : (ReflectliteType.typeOf #[.iface 159 v]).run Tryz.prog w = .ok (.iface 232 (.agg #[.pointer (some ⟨1, 159, none⟩)])) w := by kernel_rfl
theorem as_assignable25 (w : World) : (ReflectliteType.relation "AssignableTo" ReflectliteType.assignableTo #[.agg #[.pointer (some ⟨1, 159, none⟩)], .iface 232 (.agg #[.pointer (some ⟨1, 159, none⟩)])]).run Tryz.prog w = .ok (.bool true) w := by kernel_rfl
theorem as_valueOf25 (e : Addr) (w : World) : (ReflectliteValue.unpack (.iface 159 (.pointer (some e)))).run Tryz.prog w
    = .ok (.agg #[.pointer (some ⟨1, 159, none⟩), .pointer (some ⟨w.heap.size, 0, none⟩), .int .u64 150]) (w.alloc (.cells #[.pointer (some e)] 159)) := by kernel_rfl

theorem as_elemOf27 (w : World) : (Rtype.elem? 161).run Tryz.prog w = .ok (some 159) w := by kernel_rfl
theorem as_mk25 (p : Addr) (w : World) : (ReflectliteValue.mk 159 p ReflectliteValue.flagAddr).run Tryz.prog w = .ok (.agg #[.pointer (some ⟨1, 159, none⟩), .pointer (some p), .int .u64 406]) w := by kernel_rfl
theorem as_elemV27 (a p : Addr) (W : World) (ha : W.cell? a = some (.pointer (some p))) :
    (ReflectliteValue.method (ReflectliteValue.valueError "reflectlite.Value.Elem" 0) ReflectliteValue.elem #[.agg #[.pointer (some ⟨1, 161, none⟩), .pointer (some a), .int .u64 150]]).run Tryz.prog W
      = .ok (.agg #[.pointer (some ⟨1, 159, none⟩), .pointer (some p), .int .u64 406]) W := by
  rw [rlm]
  simp only [Sem.run_bind, as_parts27, Result.andThen]
  simp [ReflectliteValue.elem, loadVar, isAgg, underlying, Tryz.underlying161, ha, Result.andThen, as_elemOf27, as_mk25]
theorem rls (v x : Value) : ReflectliteValue.set #[v, x] = (do
    let (some (dst, a, fl), some (src, b, _)) := (← ReflectliteValue.parts v, ← ReflectliteValue.parts x)
      | unsupported (.noEntry "extern/(internal/reflectlite.Value).Set.zeroValue")
    if fl / ReflectliteValue.flagAddr % 2 == 0 then unsupported (.noEntry "extern/(internal/reflectlite.Value).Set.unaddressable")
    let val ← loadVar src b
    if ← Rtype.directlyAssignable dst src then storeVar dst a val
    else if ← Rtype.implements dst src then
      if (← Rtype.kind src) == 20 then
        match val with
        | .nilIface => unsupported (.noEntry "extern/reflectlite: a nil value of one interface type handed on as a value of another")
        | _ => storeVar dst a val
      else storeVar dst a (.iface src val)
    else panicString ("reflectlite.Set: value of type " ++ (← Rtype.spelt src) ++ " is not assignable to type " ++ (← Rtype.spelt dst))
    pure (.tuple #[])) := rfl
theorem as_parts25a (a : Addr) (w : World) : (ReflectliteValue.parts (.agg #[.pointer (some ⟨1, 159, none⟩), .pointer (some a), .int .u64 406])).run Tryz.prog w = .ok (some (159, a, 406)) w := by kernel_rfl
theorem as_parts25 (a : Addr) (w : World) : (ReflectliteValue.parts (.agg #[.pointer (some ⟨1, 159, none⟩), .pointer (some a), .int .u64 150])).run Tryz.prog w = .ok (some (159, a, 150)) w := by kernel_rfl
theorem as_direct25 (w : World) : (Rtype.directlyAssignable 159 159).run Tryz.prog w = .ok true w := by kernel_rfl
theorem as_set25 (ta b e : Addr) (old : Value) (W : World) (hb : W.cell? b = some (.pointer (some e))) (ht : W.cell? ta = some old) (hf : W.frozen? ta = false) :
    (ReflectliteValue.set #[.agg #[.pointer (some ⟨1, 159, none⟩), .pointer (some ta), .int .u64 406], .agg #[.pointer (some ⟨1, 159, none⟩), .pointer (some b), .int .u64 150]]).run Tryz.prog W
      = .ok (.tuple #[]) (W.setCell ta (.pointer (some e))) := by
  rw [rls]
  simp only [Sem.run_bind, as_parts25a, as_parts25, Result.andThen]
  simp [ReflectliteValue.flagAddr, loadVar, isAgg, underlying, Tryz.underlying159, hb, Result.andThen, as_direct25, storeVar, Value.cells, storeCells, Addr.add]
  rw [run_store Tryz.prog W ta _ _ (by rfl)]
  simp [ht, hf]

set_option maxRecDepth 100000 in
set_option maxHeartbeats 4000000 in
theorem as_hit (e t : Addr) (old : Value) (w : World) (hg : w.cell? ⟨0, 0, none⟩ = some (.iface 232 (.agg #[.pointer (some ⟨1, 99, none⟩)]))) (ht0 : w.cell? t = some old) (hf0 : w.frozen? t = false) :
    Calls Tryz.prog 102 #[.iface 159 (.pointer (some e)), .iface 161 (.pointer (some t))] w fun ev w' => ev = .returned (.bool true) ∧ w' = ((((w.alloc (.cells #[.pointer (some t)] 161)).alloc (.cells #[.pointer (some ⟨1, 161, none⟩), .pointer (some ⟨w.heap.size, 0, none⟩), .int .u64 150] 205)).alloc (.cells #[.pointer (some ⟨1, 161, none⟩), .pointer (some ⟨w.heap.size, 0, none⟩), .int .u64 150] 205)).alloc (.cells #[.pointer (some e)] 159)).setCell t (.pointer (some e)) := by
  have h6 := @run_callFunc_extern Tryz.prog 141 _ (fun args => ReflectliteValue.unpack (args.getD 0 (.tuple #[]))) Tryz.func141 (by kernel_rfl) (by kernel_rfl) (by kernel_rfl) (by kernel_rfl)
  have h7 := @run_callFunc_extern Tryz.prog 142 _ (ReflectliteValue.methodAny (ReflectliteValue.valueError "reflectlite.Value.Type" 0) (fun t _ _ _ => ReflectliteType.toType t)) Tryz.func142 (by kernel_rfl) (by kernel_rfl) (by kernel_rfl) (by kernel_rfl)
  have h8 := @run_callFunc_extern Tryz.prog 143 _ (ReflectliteValue.method (ReflectliteValue.valueError "reflectlite.Value.IsNil" 0) ReflectliteValue.isNil) Tryz.func143 (by kernel_rfl) (by kernel_rfl) (by kernel_rfl) (by kernel_rfl)
  have h27 := @run_callFunc_extern Tryz.prog 229 _ (ReflectliteType.abiMethod fun t => do pure (.int .u8 (← Rtype.kind t))) Tryz.func229 (by kernel_rfl) (by kernel_rfl) (by kernel_rfl) (by kernel_rfl)
  have h37 := @run_callFunc_extern Tryz.prog 246 _ (ReflectliteType.method ReflectliteType.elem) Tryz.func246 (by kernel_rfl) (by kernel_rfl) (by kernel_rfl) (by kernel_rfl)
  have h38 := @run_callFunc_extern Tryz.prog 247 _ (ReflectliteType.relation "Implements" ReflectliteType.implements_) Tryz.func247 (by kernel_rfl) (by kernel_rfl) (by kernel_rfl) (by kernel_rfl)
  have h10 := @run_callFunc_extern Tryz.prog 173 _ ReflectliteType.typeOf Tryz.func173 (by kernel_rfl) (by kernel_rfl) (by kernel_rfl) (by kernel_rfl)
  have h35 := @run_callFunc_extern Tryz.prog 244 _ (ReflectliteType.relation "AssignableTo" ReflectliteType.assignableTo) Tryz.func244 (by kernel_rfl) (by kernel_rfl) (by kernel_rfl) (by kernel_rfl)
  have h11 := @run_callFunc_extern Tryz.prog 174 _ (ReflectliteValue.method (ReflectliteValue.valueError "reflectlite.Value.Elem" 0) ReflectliteValue.elem) Tryz.func174 (by kernel_rfl) (by kernel_rfl) (by kernel_rfl) (by kernel_rfl)
  have h12 := @run_callFunc_extern Tryz.prog 175 _ ReflectliteValue.set Tryz.func175 (by kernel_rfl) (by kernel_rfl) (by kernel_rfl) (by kernel_rfl)
  have tO := as_typeOf25
  have mA := as_methodAssignableTo
  have a25 := as_assignable25
  have v25 := as_valueOf25
  have f6 := as_valueOf27
  have f7 := as_type27
  have mK := as_methodKind
  have mE := as_methodElem
  have mI := as_methodImplements
  have k27 := as_kind27
  have k25 := as_kind25
  have e27 := as_elem27
  have i25 := as_implements25
  have n8 := as_isNil27 ⟨w.heap.size, 0, none⟩ t ((w.alloc (.cells #[.pointer (some t)] 161)).alloc (.cells #[.pointer (some ⟨1, 161, none⟩), .pointer (some ⟨w.heap.size, 0, none⟩), .int .u64 150] 205)) (by simp)
  have hlt : 0 < w.heap.size := by
    rcases Nat.eq_zero_or_pos w.heap.size with h0 | h
    · simp [World.cell?, h0] at hg
    · exact h
  have hg2 : ((w.alloc (.cells #[.pointer (some t)] 161)).alloc (.cells #[.pointer (some ⟨1, 161, none⟩), .pointer (some ⟨w.heap.size, 0, none⟩), .int .u64 150] 205)).cell? ⟨0, 0, none⟩ = some (.iface 232 (.agg #[.pointer (some ⟨1, 99, none⟩)])) := by
    rw [World.cell?_alloc_lt _ _ ⟨0, 0, none⟩ (by simp), World.cell?_alloc_lt _ _ ⟨0, 0, none⟩ hlt]; exact hg
  have htl : t.block < w.heap.size := by
    rcases Nat.lt_or_ge t.block w.heap.size with h | h
    · exact h
    · simp [World.cell?, Array.getElem?_eq_none h] at ht0
  have el := as_elemV27 ⟨w.heap.size, 0, none⟩ t (((w.alloc (.cells #[.pointer (some t)] 161)).alloc (.cells #[.pointer (some ⟨1, 161, none⟩), .pointer (some ⟨w.heap.size, 0, none⟩), .int .u64 150] 205)).alloc (.cells #[.pointer (some ⟨1, 161, none⟩), .pointer (some ⟨w.heap.size, 0, none⟩), .int .u64 150] 205)) (by rw [World.cell?_alloc_lt _ _ ⟨w.heap.size, 0, none⟩ (by simp; omega)]; simp)
  have st := as_set25 t ⟨w.heap.size + 1 + 1 + 1, 0, none⟩ e old ((((w.alloc (.cells #[.pointer (some t)] 161)).alloc (.cells #[.pointer (some ⟨1, 161, none⟩), .pointer (some ⟨w.heap.size, 0, none⟩), .int .u64 150] 205)).alloc (.cells #[.pointer (some ⟨1, 161, none⟩), .pointer (some ⟨w.heap.size, 0, none⟩), .int .u64 150] 205)).alloc (.cells #[.pointer (some e)] 159))
    (by rw [World.cell?_alloc_at _ _ _ _ (by simp)]; rfl)
    (by rw [World.cell?_alloc_lt _ _ t (by simp; omega), World.cell?_alloc_lt _ _ t (by simp; omega), World.cell?_alloc_lt _ _ t (by simp; omega), World.cell?_alloc_lt _ _ t htl]; exact ht0)
    (by rw [World.frozen?_alloc_old _ _ t (by simp; omega), World.frozen?_alloc_old _ _ t (by simp; omega), World.frozen?_alloc_old _ _ t (by simp; omega), World.frozen?_alloc_old _ _ t (Nat.ne_of_lt htl)]; exact hf0)
  go_enter Tryz.func102, Tryz.ntmps102
  go_wp2
  refine wp_loop_rounds 1 ?_
  rw [rounds_succ]
  go_wp2
  go_ret
  exact ⟨rfl, rfl⟩
/-- The handle of the type error, as a row's list has it. -/
def ET (w : World) : Prop := w.cell? ⟨0, 0, none⟩ = some (.iface 232 (.agg #[.pointer (some ⟨1, 99, none⟩)]))
theorem ET.below {w w1 : World} (h : ET w) (hb : Below w.heap.size w w1) : ET w1 := (hb.cell (World.block_lt_of_cell? w _ h)).trans h
/-- A dead store's changes do not begin. -/
theorem may_dead {w : World} {ok : Nat → Prop} {p pd : Nat} {S : SM} (h : PSto w ok p pd S) (hd : S.dead = true) (hg : ET w) (k : ByteArray) :
    Calls Tryz.prog 58 #[.pointer (some ⟨p, 0, none⟩), .string k] w fun e w' => e = .returned (.int .i64 62) ∧ Below w.heap.size w w' := by
  have hB := below_alloc (Below.refl w.heap.size w) (.cells #[.pointer none] 159)
  obtain ⟨okr, hb, mb, dv, h⟩ := h
  have hs := h.blk.step (hB.block _ h.blk.lt)
  have c6 := hs.c6
  have hd2 := h.dead
  unfold DeadV at hd2
  rw [if_pos hd] at hd2
  obtain ⟨db, x, rfl, _⟩ := hd2
  have hgA := hg.below hB
  have ha := as_hit ⟨db, 0, none⟩ ⟨w.heap.size, 0, none⟩ (.pointer none) _ hgA (by simp) (by simp)
  clear hs h hgA hg
  go_enter Tryz.func58, Tryz.ntmps58
  go_wp2_with fail
  refine ha.mono ?_
  rintro e w' ⟨rfl, rfl⟩
  clear ha
  go_wp2
  go_ret
  exact ⟨rfl, below_alloc (below_alloc (below_alloc (below_alloc (below_alloc (Below.refl _ _) _) _) _) _) _⟩
theorem sput_dead {w : World} {ok : Nat → Prop} {p pd : Nat} {S : SM} (h : PSto w ok p pd S) (hd : S.dead = true) (hg : ET w) (k : ByteArray) (A : Option Addr) (n c : Nat) : Calls Tryz.prog 22 #[.pointer (some ⟨p, 0, none⟩), .string k, .slice A n c] w fun e w' => e = .returned (.int .i64 62) ∧ Below w.heap.size w w' := by
  have hB := below_alloc (Below.refl w.heap.size w) (.cells #[.string k] 9)
  have hm := may_dead (h.below hB) hd (hg.below hB) k
  go_enter Tryz.func22, Tryz.ntmps22
  go_wp2_with fail
  refine hm.mono ?_
  rintro e w1 ⟨rfl, hB1⟩
  have hB2 := below_step hB hB1
  clear hB hB1 hm
  go_wp2
  go_ret
  exact ⟨rfl, hB2⟩
theorem sdel_dead {w : World} {ok : Nat → Prop} {p pd : Nat} {S : SM} (h : PSto w ok p pd S) (hd : S.dead = true) (hg : ET w) (k : ByteArray) : Calls Tryz.prog 23 #[.pointer (some ⟨p, 0, none⟩), .string k] w fun e w' => e = .returned (.int .i64 62) ∧ Below w.heap.size w w' := by
  have hB := below_alloc (Below.refl w.heap.size w) (.cells #[.string k] 9)
  have hm := may_dead (h.below hB) hd (hg.below hB) k
  go_enter Tryz.func23, Tryz.ntmps23
  go_wp2_with fail
  refine hm.mono ?_
  rintro e w1 ⟨rfl, hB1⟩
  have hB2 := below_step hB hB1
  clear hB hB1 hm
  go_wp2
  go_ret
  exact ⟨rfl, hB2⟩
end Go.Proofs.YticogmpafehomaaGreatDoor

set_option linter.unusedVariables false
set_option linter.unusedSimpArgs false
namespace Go.Proofs.YticogmpafehomaaGreatDoor
open Go.RowKit Go.Proofs.YticogmpafehomaaGreatDoorW.PrintWords Go.Proofs.YticogmpafehomaaGreatDoorW.PrintMore

/-- Is an entry of this key left out? -/
def skipO (o : Op24) (a : ByteArray) : Bool := decide ((o.kind = 1 ∨ o.kind = 2) ∧ a = o.key)
/-- Is this the place for the new one? -/
def hereO (o : Op24) (d : Bool) (a : ByteArray) : Bool := !d && decide (¬ bl a < bl o.key)
def withL (o : Op24) : Ent → Bool → Ent
  | [], d => if d = true then [] else [(o.key, o.data)]
  | x :: l, d => (if hereO o d x.1 = true then [(o.key, o.data)] else []) ++ ((if skipO o x.1 = true then [] else [x]) ++ withL o l (d || hereO o d x.1))
theorem hereO_done (o : Op24) (a : ByteArray) : hereO o true a = false := rfl
theorem withL_done (o : Op24) : ∀ l, withL o l true = l.filter fun x => !skipO o x.1
  | [] => rfl
  | x :: l => by
    simp only [withL, hereO_done]
    rw [Bool.or_false, withL_done o l, List.filter_cons]
    cases skipO o x.1 <;> simp
theorem withL_put (o : Op24) (h1 : o.kind = 1) : ∀ E : Ent, SortedE E → withL o E false = putE o.key o.data E
  | [], _ => rfl
  | (a, u) :: l, hs => by
    have h2 := sortedE_cons.1 hs
    dsimp only at h2
    simp only [withL, putE]
    by_cases hlt : bl a < bl o.key
    · have hh : hereO o false a = false := by unfold hereO; simp [hlt]
      have hne : a ≠ o.key := fun e => by rw [e] at hlt; exact BL.lt_irrefl _ hlt
      have hsk : skipO o a = false := by unfold skipO; simp [hne]
      have hn : ¬ bl o.key < bl a := fun e => BL.lt_irrefl _ (BL.lt_trans hlt e)
      rw [hh, hsk, if_neg hn, if_neg hne, Bool.or_false, withL_put o h1 l h2.2]
      rfl
    · have hh : hereO o false a = true := by unfold hereO; simp [hlt]
      rw [hh, Bool.or_true, withL_done]
      have hf : ∀ x ∈ l, (!skipO o x.1) = true := fun x hx => by
        have := h2.1 x hx
        have hne : x.1 ≠ o.key := fun e => hlt (by rw [← e]; exact this)
        unfold skipO
        simp [hne]
      rw [List.filter_eq_self.2 hf]
      by_cases he : a = o.key
      · have hsk : skipO o a = true := by unfold skipO; simp [he, h1]
        have hn : ¬ bl o.key < bl a := by rw [he]; exact BL.lt_irrefl _
        rw [hsk, if_neg hn, if_pos he]
        rfl
      · have hsk : skipO o a = false := by unfold skipO; simp [he]
        have hn : bl o.key < bl a := BL.lt_of_le_ne hlt (fun e => he (bl_inj e).symm)
        rw [hsk, if_pos hn]
        rfl
theorem withL_with (o : Op24) {E : Ent} (hs : SortedE E) : withL o E (decide (o.kind ≠ 1)) = withE E o := by
  unfold withE
  by_cases h1 : o.kind = 1
  · rw [if_pos h1, decide_eq_false (by simpa using h1)]
    exact withL_put o h1 E hs
  · rw [if_neg h1, decide_eq_true h1, withL_done]
    by_cases h2 : o.kind = 2
    · rw [if_pos h2]
      unfold delE
      congr 1
      funext x
      unfold skipO
      simp [h2]
    · rw [if_neg h2, List.filter_eq_self]
      intro x _
      unfold skipO
      simp [h1, h2]
theorem withE_len (E : Ent) (o : Op24) : (withE E o).length ≤ E.length + 1 := by
  unfold withE
  split
  · exact putE_len _ _ _
  · split
    · exact Nat.le_succ_of_le (delE_len _ _)
    · exact Nat.le_succ _
theorem withE_bytes {E : Ent} (h : ∀ x ∈ E, Bytes x.2) {o : Op24} (ho : o.ok) : ∀ x ∈ withE E o, Bytes x.2 := fun x hx => by
  unfold withE at hx
  split at hx
  · rcases mem_putE hx with e | e
    · subst e; exact ho.data.1
    · exact h x e
  · split at hx
    · exact h x (mem_delE hx)
    · exact h x hx
end Go.Proofs.YticogmpafehomaaGreatDoor

set_option linter.unusedVariables false
set_option linter.unusedSimpArgs false
namespace Go.Proofs.YticogmpafehomaaGreatDoor
open Go.RowKit Go.Maps Go.Sort Go.Proofs.YticogmpafehomaaGreatDoorW.PrintWords Go.Proofs.YticogmpafehomaaGreatDoorW.PrintMore

theorem less24 (a b : ByteArray) : Op.bytesLess a.toList b.toList = decide (bl a < bl b) := by rw [bytesLess_eq, toL, toL]; rfl
theorem here_bytes (o : Op24) (a : ByteArray) : (Op.bytesLess o.key.toList a.toList || (o.key.toList == a.toList)) = hereO o false a := by
  rw [less24, str_toL]
  unfold hereO
  rw [Bool.eq_iff_iff]
  simp only [Bool.or_eq_true, decide_eq_true_eq, Bool.not_false, Bool.true_and]
  constructor
  · rintro (h | h)
    · exact BL.lt_asymm h
    · rw [h]; exact BL.lt_irrefl _
  · intro h
    by_cases he : o.key = a
    · exact .inr he
    · exact .inl (BL.lt_of_le_ne h (fun e => he (bl_inj e)))
/-- A row of entries of a call's own, whose bytes lie anywhere in okv. -/
def AccE (w1 wr : World) (okv : Nat → Prop) (v : Value) (acc : Ent) : Prop := ∃ raws : List RawE, raws.length = acc.length ∧ KRawE.R 122 wr w1.heap.size (fun k => w1.heap.size ≤ k) v raws ∧
  ∀ (i : Nat) (r : RawE) (x : ByteArray × List Int), raws[i]? = some r → acc[i]? = some x → r.of w1 okv x
theorem AccE.nil (w1 wr : World) (okv : Nat → Prop) : AccE w1 wr okv (.slice none 0 0) [] := ⟨[], rfl, Kd.R_nil _ _ _ _ _, fun i r x h => by simp at h⟩
theorem AccE.below {w1 wr w2 : World} {okv : Nat → Prop} {v : Value} {acc : Ent} (h : AccE w1 wr okv v acc) (hb : Below wr.heap.size wr w2) : AccE w1 w2 okv v acc := by
  obtain ⟨raws, h1, h2, h3⟩ := h
  exact ⟨raws, h1, Kd.R_below h2 hb, h3⟩
theorem snoc_of {w1 : World} {okv : Nat → Prop} {raws : List RawE} {acc : Ent} {r : RawE} {x : ByteArray × List Int} (hl : raws.length = acc.length) (h : ∀ (i : Nat) (r : RawE) (x : ByteArray × List Int), raws[i]? = some r → acc[i]? = some x → r.of w1 okv x) (hr : r.of w1 okv x) :
    ∀ (i : Nat) (r' : RawE) (x' : ByteArray × List Int), (raws ++ [r])[i]? = some r' → (acc ++ [x])[i]? = some x' → r'.of w1 okv x' := by
  intro i r' x' h1 h2
  by_cases hi : i < raws.length
  · rw [List.getElem?_append_left hi] at h1
    rw [List.getElem?_append_left (by omega)] at h2
    exact h i r' x' h1 h2
  · rw [List.getElem?_append_right (by omega)] at h1
    rw [List.getElem?_append_right (by omega)] at h2
    have hi2 : i - raws.length = 0 := by
      have := (List.getElem?_eq_some_iff.1 h1).1
      simp at this
      exact this
    rw [hi2] at h1
    rw [← hl, hi2] at h2
    simp at h1 h2
    subst h1 h2
    exact hr
theorem AccE.out {w1 wr : World} {okv : Nat → Prop} {v : Value} {acc : Ent} (h : AccE w1 wr okv v acc) (hb : Below w1.heap.size w1 wr) (hv : ∀ k, okv k → k < w1.heap.size) :
    ∃ A c, v = .slice A acc.length c ∧ RowE wr (fun k => okv k ∨ w1.heap.size ≤ k) A acc.length acc := by
  obtain ⟨raws, h1, h2, h3⟩ := h
  obtain ⟨A, c, rfl⟩ := Kd.R_slice h2
  refine ⟨A, c, by rw [h1], rfl, fun ad had => ?_, raws, h1, ?_, fun i r x hr hx => ?_⟩
  · subst had
    obtain ⟨_, inner, ho, _⟩ := h2
    rcases ho.2 with ⟨e, _⟩ | ⟨g, cap, cur, e, _⟩
    · cases e
    · injection e with e; injection e with e; exact ⟨g, e⟩
  · have := Kd.F_mono (Kd.R_F h2) (ok' := fun k => okv k ∨ w1.heap.size ≤ k) (fun k hk => .inr hk)
    rw [h1] at this
    exact this
  · exact ((h3 i r x hr hx).mono (fun k hk => .inl hk)).step (fun k hk hlt => by
      rcases hk with hk | hk
      · exact hb.block k hlt
      · omega)
/-- The cells of an entry, one behind the other. -/
theorem cells_ent {w : World} {g i : Nat} {k : ByteArray} {v : Value} (h0 : w.cell? ⟨g, i * 2, none⟩ = some (.string k)) (h1 : w.cell? ⟨g, i * 2 + 1, none⟩ = some v) : ∀ j u, ([.string k, v] : List Value)[j]? = some u → w.cell? ((⟨g, i * 2, none⟩ : Addr).add j) = some u := by
  intro j u hj
  match j, hj with
  | 0, hj => simp at hj; subst hj; exact h0
  | 1, hj => simp at hj; subst hj; exact h1
  | j + 2, hj => simp at hj
theorem KRawE_M {w : World} {base : Nat} {ok : Nat → Prop} (k : ByteArray) (A : Option Addr) (n c : Nat) : KRawE.M w base ok ⟨k, A, n, c⟩ [.string k, .slice A n c] := ⟨[.string k], [.slice A n c], rfl, rfl, rfl⟩
set_option maxRecDepth 100000 in
set_option maxHeartbeats 8000000 in
theorem with_any {w : World} {ok okb : Nat → Prop} {A B : Option Addr} {n c c2 : Nat} {xs : Ent} {o : Op24} (hx : RowE w ok A n xs) (hb : RB w okb B o.data) (hc : o.data.length ≤ c2) (hs : SortedE xs) (hn : n ≤ 65536) (ho : o.ok) :
    Calls Tryz.prog 33 #[.slice A n c, .agg (opA o B c2)] w fun e w' => ∃ A' c', e = .returned (.slice A' (withE xs o).length c') ∧ RowE w' (fun k => ok k ∨ okb k ∨ w.heap.size ≤ k) A' (withE xs o).length (withE xs o) ∧ Below w.heap.size w w' := by
  have hB0 := below_alloc (Below.refl w.heap.size w) (.cells (opA o B c2) 41)
  have hx0 := heap_alloc_new w (.cells (opA o B c2) 41)
  have hnx : n = xs.length := hx.1
  obtain ⟨okv, hokv⟩ : ∃ okv : Nat → Prop, okv = fun k => (ok k ∨ okb k) ∧ k < w.heap.size := ⟨_, rfl⟩
  have hx1 : RowE (w.alloc (.cells (opA o B c2) 41)) okv A n xs := by
    rw [hokv]
    exact (hx.bound.mono (fun k hk => ⟨.inl hk.1, hk.2⟩)).below hB0
  have hb1 : RB (w.alloc (.cells (opA o B c2) 41)) okv B o.data := by
    rw [hokv]
    exact RB_below (Kd.F_mono (Kd.F_bound hb) (fun k hk => ⟨.inr hk.1, hk.2⟩)) hB0
  have hsz : (w.alloc (.cells (opA o B c2) 41)).heap.size = w.heap.size + 1 := World.size_alloc _ _
  have hwl := withL_with o hs
  have hwn := withE_len xs o
  obtain ⟨R, hR⟩ : ∃ R, withE xs o = R := ⟨_, rfl⟩
  rw [hR] at hwl hwn ⊢
  have hnew : RawE.of ⟨o.key, B, o.data.length, c2⟩ (w.alloc (.cells (opA o B c2) 41)) okv (o.key, o.data) := ⟨rfl, rfl, hc, hb1⟩
  have hhere := fun a => here_bytes o a
  have hskip : ∀ a, skipO o a = decide ((o.kind = 1 ∨ o.kind = 2) ∧ a = o.key) := fun _ => rfl
  have hd0 : (o.kind != 1) = decide (o.kind ≠ 1) := by
    by_cases h : o.kind = 1
    · simp [h]
    · simp [h]
  rw [← hd0] at hwl
  unfold opA at hB0 hx0 hx1 hnew hsz ⊢
  clear hx hb hb1 hR hd0 ho hs hc
  generalize o.kind = kd at hB0 hx0 hx1 hnew hsz hskip hwl ⊢
  generalize o.n = on at hB0 hx0 hx1 hnew hsz ⊢
  generalize hky : o.key = key at hB0 hx0 hx1 hnew hsz hskip hhere ⊢
  generalize o.data.length = L at hB0 hx0 hx1 hnew hsz ⊢
  have hov : ∀ k, okv k → k < (w.alloc (.cells #[.int .i64 kd, .int .i64 on, .string key, .slice B L c2] 41)).heap.size := fun k hk => by rw [hokv] at hk; have := hk.2; omega
  have H0 := hid (And.intro hky (And.intro hnx (And.intro hwn (And.intro hx1 (And.intro hnew (And.intro hhere (And.intro hskip (And.intro hov (And.intro hB0 (And.intro hwl (And.intro hsz hokv)))))))))))
  clear hky hnx hwn hx1 hnew hhere hskip hov hB0 hwl hsz hokv
  go_enter Tryz.func33, Tryz.ntmps33
  go_wp2_with fail
  generalize w.alloc (.cells #[.int .i64 kd, .int .i64 on, .string key, .slice B L c2] 41) = w1 at H0 hx0 ⊢
  generalize (kd != 1) = d0 at H0 ⊢
  go_loopw [5, 6, 7] (fun v dv i wr => ∃ (j : Nat) (d : Bool) (acc : Ent), j ≤ n ∧ i = .int .i64 j ∧ dv = .bool d ∧ Hid (acc ++ withL o (xs.drop j) d = R ∧ AccE w1 wr okv v acc) ∧ Below w1.heap.size w1 wr) (fun _ _ i _ => n - (intOf i).toNat)
  case atStart => exact ⟨0, d0, [], Nat.zero_le _, rfl, rfl, hid ⟨H0.out.2.2.2.2.2.2.2.2.2.1, AccE.nil _ _ _⟩, Below.refl _ _⟩
  case round =>
    obtain ⟨W, hW⟩ : ∃ W : World, W = wr := ⟨_, rfl⟩
    subst hW
    obtain ⟨j, d, acc, hj, rfl, rfl, hacc, hB⟩ := hrel
    by_cases hlt : j < n
    · have hltI : (j : Int) < (n : Int) := by omega
      have hjx : j < xs.length := by have := H0.out.2.1; omega
      obtain ⟨g1, B1, c1, rfl, x0, x1, hlc, hb1⟩ := H0.out.2.2.2.1.at_ hjx
      have y0 := pw_cell_below hB x0
      have y1 := pw_cell_below hB x1
      have hof : RawE.of ⟨xs[j].1, B1, xs[j].2.length, c1⟩ w1 okv xs[j] := ⟨rfl, rfl, hlc, hb1⟩
      have hw := hacc.out.1
      rw [List.drop_eq_getElem_cons hjx] at hw
      simp only [withL] at hw
      generalize xs[j] = X at x0 x1 y0 y1 hof hw
      obtain ⟨xk, xv⟩ := X
      dsimp only at x0 x1 y0 y1 hof hw
      generalize xv.length = XL at x1 y1 hof
      have hh := H0.out.2.2.2.2.2.1 xk
      have hsk := H0.out.2.2.2.2.2.2.1 xk
      have hq : (xk.toList == key.toList) = decide (xk = key) := str_toL
      have z2 := pw_cell_below hB (cell_of_row _ _ 2 _ _ _ hx0)
      have HX := hid (And.intro x0 x1)
      have HA := hid (And.intro hw (And.intro hacc.out.2 (And.intro hof (And.intro hsk hB))))
      clear hw hof hsk hacc x0 x1 hlc hb1
      go_wp2_with fail
      go_cut [28] (fun b wc => b = .bool (hereO o d xk) ∧ Below W.heap.size W wc)
      case first =>
        cases d with
        | true =>
          refine wp_region_plan [] (.take 0 (.take 1 (.take 2 (.take 3 (.take 4 (.take 5 (.take 6 (.take 7 (.take 8 (.take 9 (.take 10 (.take 11 .done)))))))))))) (fun w' => Below W.heap.size W w') (by kernel_rfl) (by kernel_rfl) (fun c a d v w h => by cases d <;> exact h) (below_drew (Below.refl _ _)) ?_
          iterate 3 (apply plan_take rfl rfl; (case hy => (intro w' hS; clear hS; go_simp; try exact rfl)); go_simp)
          iterate 8 (refine plan_skip rfl rfl ?_; go_simp)
          iterate 1 (apply plan_take rfl rfl; (case hy => (intro w' hS; clear hS; go_simp; try exact rfl)); go_simp)
          refine plan_done ?_
          go_wp2_with fail
          go_meet
          case rel => exact ⟨rfl, below_drew (Below.refl _ _)⟩
        | false =>
          obtain ⟨q, hqq⟩ : ∃ q, hereO o false xk = q := ⟨_, rfl⟩
          rw [hqq] at hh
          have HQ := hid hqq
          clear hqq
          simp at z2
          refine wp_region_plan [] (.take 0 (.take 1 (.take 2 (.take 3 (.take 4 (.take 5 (.take 6 (.take 7 (.take 8 (.take 9 (.take 10 (.take 11 .done)))))))))))) (fun w' => Below W.heap.size W w') (by kernel_rfl) (by kernel_rfl) (fun c a d v w h => by cases d <;> exact h) (below_drew (Below.refl _ _)) ?_
          iterate 12 (apply plan_take rfl rfl; (case hy => (intro w' hS; have f0 := pw_cell_below hS y0; have f1 := pw_cell_below hS z2; clear hS; go_simp; try exact rfl)); go_simp)
          refine plan_done ?_
          go_wp2_with fail
          go_meet
          case rel => exact ⟨by rw [HQ.out], below_drew (Below.refl _ _)⟩
      case rest =>
        obtain ⟨rfl, hB1⟩ := hcut
        obtain ⟨W2, hW2⟩ : ∃ W2 : World, W2 = wc := ⟨_, rfl⟩
        subst hW2
        have hBw := HA.out.2.2.2.2.trans (hB1.mono HA.out.2.2.2.2.size)
        obtain ⟨raws, hrl, hR, hrof⟩ := HA.out.2.1.below hB1
        obtain ⟨A0, c0, rfl⟩ := Kd.R_slice hR
        have hal : raws.length ≤ 65537 := by have h1 := congrArg List.length HA.out.1; have h2 := H0.out.2.2.1; have h3 := H0.out.2.1; rw [List.length_append] at h1; omega
        have z2 := pw_cell_below hBw (cell_of_row _ _ 2 _ _ _ hx0)
        have z3 := pw_cell_below hBw (cell_of_row _ _ 3 _ _ _ hx0)
        simp at z2 z3
        have HR := hid (And.intro hR (And.intro hBw (And.intro hrl hal)))
        have HF := hid hrof
        clear hR hBw hrl hal hrof hh
        go_upto_if 28 with (fail)
        go_cut [5, 6] (fun v2 dv2 wc2 => ∃ (d2 : Bool) (acc2 : Ent), dv2 = .bool d2 ∧ Hid (d2 = (d || hereO o d xk) ∧ acc2 = acc ++ (if hereO o d xk = true then [(o.key, o.data)] else [])) ∧ Hid (AccE w1 wc2 okv v2 acc2) ∧ Below w1.heap.size w1 wc2)
        case first =>
          cases hq1 : hereO o d xk with
          | true =>
            have HQ := hid hq1
            clear hq1
            go_wp2_with (at_builtin; refine Kd.R_append KRawE (w0 := w1) (W := W2) w1.heap.size rfl (.tmp 29) (.tmp 35) 55 122 (.agg #[.string ⟨#[]⟩, .slice none 0 0]) 40 rfl Tryz.underlying55 info_Ent rfl (by decide) (by decide) (.slice A0 raws.length c0) raws ⟨key, B, L, c2⟩ [.string key, .slice B L c2] (fun k => w1.heap.size ≤ k) (fun _ => False) rfl rfl ?hp ?hokp ?hfresh HR.out.1 HR.out.2.1 HR.out.2.1.size ?hl9 ?_)
            case hp => exact KRawE_M _ _ _ _
            case hokp => exact fun k hk => hk.elim
            case hfresh => exact fun k hk => Nat.le_trans HR.out.2.1.size hk
            case hl9 => have h1 := HR.out.2.2.2; have h2 := HR.out.2.2.1; omega
            intro v2 w4 hR4 hB4 hg4 hat4
            clear hg4 hat4
            have hac : AccE w1 w4 okv v2 (acc ++ [(o.key, o.data)]) := ⟨raws ++ [⟨key, B, L, c2⟩], by rw [List.length_append, List.length_append, HR.out.2.2.1]; rfl, hR4, snoc_of HR.out.2.2.1 HF.out (by rw [H0.out.1]; exact H0.out.2.2.2.2.1)⟩
            have HC := hid hac
            clear hac hR4
            go_wp2_with fail
            go_meet
            case rel => exact ⟨true, _, rfl, hid ⟨by rw [HQ.out, Bool.or_true], by rw [HQ.out, if_pos rfl]⟩, HC, hB4⟩
          | false =>
            have HQ := hid hq1
            clear hq1
            go_wp2_with fail
            go_meet
            case rel => exact ⟨d, _, rfl, hid ⟨by rw [HQ.out, Bool.or_false], by rw [HQ.out, if_neg (by simp)]⟩, hid ⟨raws, by rw [List.length_append, HR.out.2.2.1]; rfl, HR.out.1, by rw [List.append_nil]; exact HF.out⟩, HR.out.2.1⟩
        case rest =>
          obtain ⟨d2, acc2, rfl, hda, hac, hB2⟩ := hcut
          obtain ⟨W3, hW3⟩ : ∃ W3 : World, W3 = wc := ⟨_, rfl⟩
          subst hW3
          have hw2 := HA.out.1
          rw [← List.append_assoc, ← hda.out.2, ← hda.out.1] at hw2
          have HW := hid hw2
          clear hw2 hda HR HF z2 z3
          go_upto_region 9 with (fail)
          go_cut [54] (fun b wc => b = .bool (!skipO o xk) ∧ Below W3.heap.size W3 wc)
          case first =>
            have u0 := pw_cell_below hB2 (cell_of_row _ _ 0 _ _ _ hx0)
            have u2 := pw_cell_below hB2 (cell_of_row _ _ 2 _ _ _ hx0)
            have v0 := pw_cell_below hB2 HX.out.1
            simp at u0 u2
            have hsk := HA.out.2.2.2.1
            obtain ⟨q, hqq⟩ : ∃ q, decide (xk = key) = q := ⟨_, rfl⟩
            rw [hqq] at hq
            by_cases hk1 : kd = 1
            · subst hk1
              have hres : skipO o xk = q := by rw [hsk, ← hqq]; simp
              have HQ := hid hres
              clear hsk hres hqq
              refine wp_region_plan [] (.take 0 (.take 1 (.take 2 (.take 3 (.take 4 (.take 5 (.take 6 (.take 7 (.take 8 (.take 9 (.take 10 (.take 11 (.take 12 (.take 13 (.take 14 (.take 15 (.take 16 (.take 17 .done)))))))))))))))))) (fun w' => Below W3.heap.size W3 w') (by kernel_rfl) (by kernel_rfl) (fun c a d v w h => by cases d <;> exact h) (below_drew (Below.refl _ _)) ?_
              iterate 4 (apply plan_take rfl rfl; (case hy => (intro w' hS; have f0 := pw_cell_below hS u0; have f1 := pw_cell_below hS u2; have f2 := pw_cell_below hS v0; clear hS; go_simp; try exact rfl)); go_simp)
              iterate 3 (refine plan_skip rfl rfl ?_; go_simp)
              iterate 11 (apply plan_take rfl rfl; (case hy => (intro w' hS; have f0 := pw_cell_below hS u0; have f1 := pw_cell_below hS u2; have f2 := pw_cell_below hS v0; clear hS; go_simp; try exact rfl)); go_simp)
              refine plan_done ?_
              go_wp2_with fail
              go_meet
              case rel => exact ⟨by rw [HQ.out], below_drew (Below.refl _ _)⟩
            · by_cases hk2 : kd = 2
              · subst hk2
                have hres : skipO o xk = q := by rw [hsk, ← hqq]; simp
                have HQ := hid hres
                clear hsk hres hqq hk1
                refine wp_region_plan [] (.take 0 (.take 1 (.take 2 (.take 3 (.take 4 (.take 5 (.take 6 (.take 7 (.take 8 (.take 9 (.take 10 (.take 11 (.take 12 (.take 13 (.take 14 (.take 15 (.take 16 (.take 17 .done)))))))))))))))))) (fun w' => Below W3.heap.size W3 w') (by kernel_rfl) (by kernel_rfl) (fun c a d v w h => by cases d <;> exact h) (below_drew (Below.refl _ _)) ?_
                iterate 18 (apply plan_take rfl rfl; (case hy => (intro w' hS; have f0 := pw_cell_below hS u0; have f1 := pw_cell_below hS u2; have f2 := pw_cell_below hS v0; clear hS; go_simp; try exact rfl)); go_simp)
                refine plan_done ?_
                go_wp2_with fail
                go_meet
                case rel => exact ⟨by rw [HQ.out], below_drew (Below.refl _ _)⟩
              · have n1 : (kd != 1) = true := by simpa using hk1
                have n2 : (kd != 2) = true := by simpa using hk2
                have hres : skipO o xk = false := by rw [hsk]; simp [hk1, hk2]
                have HQ := hid hres
                clear hsk hres hqq hk1 hk2
                refine wp_region_plan [] (.take 0 (.take 1 (.take 2 (.take 3 (.take 4 (.take 5 (.take 6 (.take 7 (.take 8 (.take 9 (.take 10 (.take 11 (.take 12 (.take 13 (.take 14 (.take 15 (.take 16 (.take 17 .done)))))))))))))))))) (fun w' => Below W3.heap.size W3 w') (by kernel_rfl) (by kernel_rfl) (fun c a d v w h => by cases d <;> exact h) (below_drew (Below.refl _ _)) ?_
                iterate 9 (apply plan_take rfl rfl; (case hy => (intro w' hS; have f0 := pw_cell_below hS u0; have f1 := pw_cell_below hS u2; have f2 := pw_cell_below hS v0; clear hS; go_simp; try exact rfl)); go_simp)
                iterate 8 (refine plan_skip rfl rfl ?_; go_simp)
                iterate 1 (apply plan_take rfl rfl; (case hy => (intro w' hS; clear hS; go_simp; try exact rfl)); go_simp)
                refine plan_done ?_
                go_wp2_with fail
                go_meet
                case rel => exact ⟨by rw [HQ.out]; rfl, below_drew (Below.refl _ _)⟩
          case rest =>
            obtain ⟨rfl, hB3⟩ := hcut
            obtain ⟨W4, hW4⟩ : ∃ W4 : World, W4 = wc := ⟨_, rfl⟩
            subst hW4
            have hBw := hB2.trans (hB3.mono hB2.size)
            obtain ⟨raws, hrl, hR, hrof⟩ := hac.out.below hB3
            obtain ⟨A0, c0, rfl⟩ := Kd.R_slice hR
            have hal : raws.length ≤ 65537 := by have h1 := congrArg List.length HW.out; have h2 := H0.out.2.2.1; have h3 := H0.out.2.1; rw [List.length_append] at h1; omega
            have hcs := cells_ent (pw_cell_below hBw HX.out.1) (pw_cell_below hBw HX.out.2)
            have HR := hid (And.intro hR (And.intro hBw (And.intro hrl hal)))
            have HF := hid hrof
            clear hR hBw hrl hal hrof hac hB2 hB3 hq y0 y1
            cases hq1 : skipO o xk with
            | true =>
              have hw3 := HW.out
              rw [hq1] at hw3
              simp only [if_true, List.nil_append] at hw3
              have HV := hid hw3
              clear hw3 hq1 hcs
              go_wp2_with fail
              go_roundw
              case rel => exact ⟨j + 1, d2, acc2, by omega, by go_num, rfl, hid ⟨HV.out, raws, HR.out.2.2.1, HR.out.1, HF.out⟩, HR.out.2.1⟩
              case measure => simp [intOf]; omega
            | false =>
              have hw3 := HW.out
              rw [hq1] at hw3
              simp only [Bool.false_eq_true, if_false] at hw3
              rw [← List.append_assoc] at hw3
              have HV := hid hw3
              clear hw3 hq1
              go_wp2_with (first | (refine wpList_load_addr rfl 122 (.tmp 58) rfl ⟨g1, j * 2, none⟩ rfl [.string xk, .slice B1 XL c1] _ hcs Tryz.underlying122 rfl (by kernel_rfl) ?_) | (at_builtin; refine Kd.R_append KRawE (w0 := w1) (W := W4) w1.heap.size rfl (.tmp 55) (.tmp 60) 55 122 (.agg #[.string ⟨#[]⟩, .slice none 0 0]) 40 rfl Tryz.underlying55 info_Ent rfl (by decide) (by decide) (.slice A0 raws.length c0) raws ⟨xk, B1, XL, c1⟩ [.string xk, .slice B1 XL c1] (fun k => w1.heap.size ≤ k) (fun _ => False) rfl rfl ?hp ?hokp ?hfresh HR.out.1 HR.out.2.1 HR.out.2.1.size ?hl9 ?_))
              case hp => exact KRawE_M _ _ _ _
              case hokp => exact fun k hk => hk.elim
              case hfresh => exact fun k hk => Nat.le_trans HR.out.2.1.size hk
              case hl9 => have h1 := HR.out.2.2.2; have h2 := HR.out.2.2.1; omega
              intro v2 w4 hR4 hB4 hg4 hat4
              clear hg4 hat4
              clear hcs
              have hac : AccE w1 w4 okv v2 (acc2 ++ [(xk, xv)]) := ⟨raws ++ [⟨xk, B1, XL, c1⟩], by rw [List.length_append, List.length_append, HR.out.2.2.1]; rfl, hR4, snoc_of HR.out.2.2.1 HF.out HA.out.2.2.1⟩
              have HC := hid hac
              clear hac hR4
              go_wp2_with fail
              go_roundw
              case rel => exact ⟨j + 1, d2, _, by omega, by go_num, rfl, hid ⟨HV.out, HC.out⟩, hB4⟩
              case measure => simp [intOf]; omega
    · obtain rfl : j = n := by omega
      have hw := hacc.out.1
      rw [List.drop_of_length_le (by have := H0.out.2.1; omega)] at hw
      simp only [withL] at hw
      cases d with
      | true =>
        simp only [if_true, List.append_nil] at hw
        obtain ⟨A', c', rfl, hrow⟩ := hacc.out.2.out hB H0.out.2.2.2.2.2.2.2.1
        subst hw
        have HF := hid (And.intro hrow hB)
        clear hrow hB hacc
        go_wp2
        go_ret
        exact ⟨A', c', rfl, HF.out.1.mono (fun k hk => hk.elim (fun e => by have := H0.out.2.2.2.2.2.2.2.2.2.2.2; rw [this] at e; exact e.1.elim .inl (fun e => .inr (.inl e))) (fun e => .inr (.inr (by have := H0.out.2.2.2.2.2.2.2.2.2.2.1; omega)))), below_step H0.out.2.2.2.2.2.2.2.2.1 HF.out.2⟩
      | false =>
        simp only [Bool.false_eq_true, if_false] at hw
        obtain ⟨raws, hrl, hR, hrof⟩ := hacc.out.2
        obtain ⟨A0, c0, rfl⟩ := Kd.R_slice hR
        have hal : raws.length ≤ 65537 := by have h1 := congrArg List.length hw; have h2 := H0.out.2.2.1; have h3 := H0.out.2.1; rw [List.length_append] at h1; omega
        have z2 := pw_cell_below hB (cell_of_row _ _ 2 _ _ _ hx0)
        have z3 := pw_cell_below hB (cell_of_row _ _ 3 _ _ _ hx0)
        simp at z2 z3
        have HR := hid (And.intro hR (And.intro hB (And.intro hrl hal)))
        have HF := hid (And.intro hrof hw)
        clear hR hB hrl hal hrof hacc hw
        go_wp2_with (at_builtin; refine Kd.R_append KRawE (w0 := w1) (W := W) w1.heap.size rfl (.tmp 64) (.tmp 70) 55 122 (.agg #[.string ⟨#[]⟩, .slice none 0 0]) 40 rfl Tryz.underlying55 info_Ent rfl (by decide) (by decide) (.slice A0 raws.length c0) raws ⟨key, B, L, c2⟩ [.string key, .slice B L c2] (fun k => w1.heap.size ≤ k) (fun _ => False) rfl rfl ?hp ?hokp ?hfresh HR.out.1 HR.out.2.1 HR.out.2.1.size ?hl9 ?_)
        case hp => exact KRawE_M _ _ _ _
        case hokp => exact fun k hk => hk.elim
        case hfresh => exact fun k hk => Nat.le_trans HR.out.2.1.size hk
        case hl9 => have h1 := HR.out.2.2.2; have h2 := HR.out.2.2.1; omega
        intro v2 w4 hR4 hB4 hg4 hat4
        clear hg4 hat4
        have hac : AccE w1 w4 okv v2 (acc ++ [(o.key, o.data)]) := ⟨raws ++ [⟨key, B, L, c2⟩], by rw [List.length_append, List.length_append, HR.out.2.2.1]; rfl, hR4, snoc_of HR.out.2.2.1 HF.out.1 (by rw [H0.out.1]; exact H0.out.2.2.2.2.1)⟩
        rw [HF.out.2] at hac
        obtain ⟨A', c', rfl, hrow⟩ := hac.out hB4 H0.out.2.2.2.2.2.2.2.1
        have HG := hid (And.intro hrow hB4)
        clear hac hR4 hrow hB4
        go_wp2
        go_ret
        exact ⟨A', c', rfl, HG.out.1.mono (fun k hk => hk.elim (fun e => by have := H0.out.2.2.2.2.2.2.2.2.2.2.2; rw [this] at e; exact e.1.elim .inl (fun e => .inr (.inl e))) (fun e => .inr (.inr (by have := H0.out.2.2.2.2.2.2.2.2.2.2.1; omega)))), below_step H0.out.2.2.2.2.2.2.2.2.1 HG.out.2⟩
end Go.Proofs.YticogmpafehomaaGreatDoor

set_option linter.unusedVariables false
set_option linter.unusedSimpArgs false
namespace Go.Proofs.YticogmpafehomaaGreatDoor
open Go.RowKit Go.Maps Go.Proofs.YticogmpafehomaaGreatDoorW.PrintWords Go.Proofs.YticogmpafehomaaGreatDoorW.PrintMore

end Go.Proofs.YticogmpafehomaaGreatDoor

set_option linter.unusedVariables false
set_option linter.unusedSimpArgs false
namespace Go.Proofs.YticogmpafehomaaGreatDoor
open Go.RowKit Go.Maps Go.Proofs.YticogmpafehomaaGreatDoorW.PrintWords Go.Proofs.YticogmpafehomaaGreatDoorW.PrintMore

end Go.Proofs.YticogmpafehomaaGreatDoor
