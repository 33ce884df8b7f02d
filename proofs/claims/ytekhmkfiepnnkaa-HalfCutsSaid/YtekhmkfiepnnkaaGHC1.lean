/- PROVED: HalfCuts answers true at every input, and leaves what it was given as it was; no condition. -/
import Derived.Test.YtekhmkfiepnnkaaRows
import Derived.WalkKit
import Derived.ProofKit
import Derived.OpenShut
import Derived.ShutString
import Derived.ChangeOld
import Derived.Below
import Derived.SizedLaws
import Derived.Test.YtekhmkfiepnnkaaGSE

/- Law 23: HalfCuts, walked. -/
set_option linter.unusedVariables false
set_option linter.unusedSimpArgs false
namespace Go.Proofs.Ytekhmkfiepnnkaa
open Go.RowKit Go.Shelf Go.Proofs.YtekhmkfiepnnkaaW.PrintWords Go.Proofs.YtekhmkfiepnnkaaW.PrintMore

abbrev KI64 : Kd Int := Kd.int .i64
theorem opens_ints : Opens Try.prog 95 (Kd.slice 3 KI64) (fun xs => (∀ x ∈ xs, -9223372036854775808 ≤ x ∧ x ≤ 9223372036854775807) ∧ xs.length * 8 ≤ 140737488351232) :=
  (opens_slice Try.underlying95 (by kernel_rfl) (B := 8) (by kernel_rfl) (opens_int Try.underlying3)).mono fun _ h => ⟨fun x hx => by have := bounds_i64 (h.1 x hx); omega, by have := h.2; omega⟩
theorem Log.alike {D D' : DM} {base size : Nat} {gen : Int} {l : List SR} (h : Log D base size gen l) (hb : D'.b = D.b) : Log D' base size gen l := by
  have e : ∀ j, D'.blk j = D.blk j := fun j => by unfold DM.blk; rw [hb]
  refine ⟨LiesB.congr l 0 (fun j _ => e j) h.lies, fun j h1 h2 => ?_, h.fit, ?_⟩
  · rw [e j]; exact h.free j h1 h2
  · have := h.n; unfold DM.n at this ⊢; rw [hb]; exact this
theorem LG.alike {B p hb : Nat} {okd : Nat → Prop} {D D' : DM} {base size : Nat} {gen : Int} {l : List SR} {m : Nat} {W W' : World} (h : LG B p hb okd D base size gen l m W) (h1 : D'.b = D.b) (h2 : D'.ws = D.ws) (hd : PDisk W' okd p D') (hc : Chg okd W W') : LG B p hb okd D' base size gen l m W' :=
  ⟨hd, h.h.step (hc.block _ h.h.lt h.nh), h.log.alike h1, by rw [h2]; exact h.ws, fun q hq => ⟨(h.ok q hq).1, Nat.lt_of_lt_of_le (h.ok q hq).2 hc.size⟩, h.nh, h.lo⟩
/-- Is a cut set in this round? -/
def cutB (cl : List Int) (k : Nat) : Bool := decide (k < cl.length ∧ 0 ≤ cl.getD k 0)
set_option maxRecDepth 100000 in
set_option maxHeartbeats 16000000 in
theorem cuts_any {w : World} {A1 A2 : Option Addr} {c1 c2 : Nat} {sl : List Op23} {cl : List Int} (hC1 : KOp23.C w A1 sl.length sl) (hC2 : KI64.C w A2 cl.length cl) (hl1 : sl.length ≤ 140737488351232) (hl2 : cl.length ≤ 140737488351232) (hok1 : ∀ o ∈ sl, o.ok) (hok2 : ∀ x ∈ cl, -9223372036854775808 ≤ x ∧ x ≤ 9223372036854775807) :
    Calls Try.prog 11 #[.slice A1 sl.length c1, .slice A2 cl.length c2] w fun e w' => e = .returned (.bool true) ∧ Below w.heap.size w w' := by
  have hE9 : hnewE (DM.new 64) (2 : Nat) (60 : Nat) 9 = 0 := by unfold hnewE; rw [new_n]; decide
  go_enter Try.func11, Try.ntmps11
  go_wp2_with fail
  refine (new_ok 64 (by omega) (by omega)).mono ?_
  rintro e w1 ⟨rfl, h1, b1⟩
  go_wp2_with fail
  refine alive_any.mono ?_
  rintro e w2 ⟨rfl, b2⟩
  have h2 := h1.bound.step (w1 := w2) (fun k _ hk => b2.block k hk)
  go_wp2_with fail
  refine (hnew_ok h2 2 60 9 hE9).mono ?_
  rintro e w3 ⟨rfl, hh3, b3⟩
  have s1 := b1.size
  have s2 := b2.size
  have s3 := b3.size
  have hLG : LG w.heap.size (w.heap.size + 1) w2.heap.size (fun q => w.heap.size ≤ q ∧ q < w1.heap.size) (DM.new 64) 2 60 9 [] 0 w3 :=
    ⟨h2.step (fun k _ hk => b3.block k hk), hh3, new_log 64 2 60 9 (by omega), Nat.zero_le _, fun q hq => ⟨hq.1, by omega⟩, fun hq => by omega, by omega⟩
  have hBw : Below w.heap.size w w3 := below_step (below_step b1 b2) b3
  generalize w.heap.size + 1 = p at hLG ⊢
  generalize w2.heap.size = hb at hLG ⊢
  clear h1 h2 hh3 b1 b2 b3 s1 s2 s3 hE9
  go_wp2_with fail
  go_loopw [7, 8, 9] (fun hv v i wr => ∃ (k h2 : Nat) (D : DM) (okd okw : Nat → Prop) (l : List SR), k ≤ sl.length ∧ k ≤ 60 ∧ hv = .pointer (some ⟨h2, 0, none⟩) ∧ i = .int .i64 k ∧ LG w.heap.size p h2 okd D 2 60 9 l k wr ∧ D.gone = false ∧ Wants w.heap.size h2 okd okw v l wr ∧ Below w.heap.size w wr) (fun _ _ i _ => 60 - (intOf i).toNat)
  case atStart => exact ⟨0, _, _, _, _, _, Nat.zero_le _, by omega, rfl, rfl, hLG, rfl, Wants.nil _ _ _ _, hBw⟩
  case round =>
    clear hLG hBw
    obtain ⟨k, h2, D, okd, okw, l, hk, hk60, rfl, rfl, hL, hg, hW, hB⟩ := hrel
    by_cases hin : k < sl.length ∧ k < 60
    · obtain ⟨hlt, h60⟩ := hin
      have hlt' : (k : Int) < (sl.length : Int) := by omega
      cases A1 with
      | none =>
        have := C_none hC1
        subst this
        simp at hlt
      | some ad =>
      have hop := (op23_at hC1 hlt).below hB
      have ho := hok1 sl[k] (List.getElem_mem hlt)
      have hadB : ad.block < w.heap.size := (op23_at hC1 hlt).lt
      generalize sl[k] = o at hop ho
      have hC2r := Kd.C_below hC2 hB
      obtain ⟨⟨A, c, rfl, hR⟩, hokw⟩ := hW
      have HL := hid (And.intro hL (And.intro hg (And.intro hR (And.intro hokw (And.intro hB (And.intro hadB (And.intro hop hC2r)))))))
      clear hL hg hR hokw hB hadB hC1 hC2 hop hC2r
      go_upto_region 11 with (fail)
      go_cut [62] (fun b62 wc => b62 = .bool (cutB cl k) ∧ wc = wr)
      case first =>
        by_cases hi : k < cl.length
        · have hi' : (k : Int) < (cl.length : Int) := by omega
          cases A2 with
          | none =>
            have := C_none HL.out.2.2.2.2.2.2.2
            subst this
            simp at hi
          | some ad2 =>
          have hcc := cells_of_C HL.out.2.2.2.2.2.2.2 k (.int .i64 (cl.getD k 0)) (by simp [nums, hi, List.getD_eq_getElem?_getD])
          have hcb : cutB cl k = decide (0 ≤ cl.getD k 0) := by unfold cutB; simp [hi]
          have HCB := hid hcb
          clear hcb
          generalize cl.getD k 0 = cv at hcc HCB
          go_wp2_with fail
          go_meet
          case rel => exact ⟨by rw [HCB.out], rfl⟩
        · have hi' : ¬ (k : Int) < (cl.length : Int) := by omega
          have hcb : cutB cl k = false := by unfold cutB; simp [hi]
          have HCB := hid hcb
          clear hcb
          go_wp2_with fail
          go_meet
          case rel => exact ⟨by rw [HCB.out], rfl⟩
      case rest =>
        obtain ⟨rfl, hwc⟩ := hcut
        subst hwc
        obtain ⟨w0, hw0⟩ : ∃ w0, w0 = wc := ⟨_, rfl⟩
        subst hw0
        go_upto_if 62 with (fail)
        go_cut [] (fun wc2 => ∃ D1 : DM, LG w.heap.size p h2 okd D1 2 60 9 l k wc2 ∧ D1.gone = false ∧ Chg okd w0 wc2)
        case first =>
          cases hcb : cutB cl k with
          | true =>
            have hcb2 : k < cl.length ∧ 0 ≤ cl.getD k 0 := by unfold cutB at hcb; exact of_decide_eq_true hcb
            obtain ⟨hi, h0⟩ := hcb2
            have hi' : (k : Int) < (cl.length : Int) := by omega
            cases A2 with
            | none =>
              have := C_none HL.out.2.2.2.2.2.2.2
              subst this
              simp at hi
            | some ad2 =>
            have hcc := cells_of_C HL.out.2.2.2.2.2.2.2 k (.int .i64 (cl.getD k 0)) (by simp [nums, hi, List.getD_eq_getElem?_getD])
            have hcv : cl.getD k 0 ≤ 9223372036854775807 := by
              rw [List.getD_eq_getElem?_getD, List.getElem?_eq_getElem hi]
              exact (hok2 _ (List.getElem_mem hi)).2
            have hct := cut_any (cl.getD k 0) HL.out.1.d hcv
            clear hcb
            generalize cl.getD k 0 = cv at hcc hct h0 hcv
            go_wp2_with fail
            refine hct.mono ?_
            rintro e w4 ⟨rfl, hd4, c4⟩
            go_wp2_with fail
            go_meet
            case rel => exact ⟨D.cut cv, HL.out.1.alike rfl rfl hd4 c4, HL.out.2.1, c4⟩
          | false =>
            go_wp2_with fail
            go_meet
            case rel => exact ⟨D, HL.out.1, HL.out.2.1, Chg.refl _ _⟩
        case rest =>
          obtain ⟨D1, hL1, hg1, hc1⟩ := hcut
          obtain ⟨hL, hg, hR, hokw, hB, hadB, hop, hC2r⟩ := HL.out
          have hW1 := (⟨⟨A, c, rfl, hR⟩, hokw⟩ : Wants w.heap.size h2 okd okw (.slice A l.length c) l w0).step (hc1.mono (fun _ h => .inl h)) (fun q h => .inl h) (.inl rfl)
          have hop1 := hop.chg hc1 (fun hd => by have := (hL.ok _ hd).1; omega)
          have hB1 := hB.trans (hc1.below_ (B := w.heap.size) hB.size (fun q hq => (hL.ok q hq).1))
          have hcn := count_any hL1.d
          obtain ⟨n1, hn1⟩ : ∃ n, D1.ws.length = n := ⟨_, rfl⟩
          rw [hn1] at hcn
          have HN1 := hid hn1
          have HOP1 := hid hop1
          have HL1 := hid (And.intro hL1 (And.intro hg1 (And.intro hW1 (And.intro hB1 hadB))))
          clear hL hg hR hokw hB hadB hop hC2r hL1 hg1 hc1 hW1 hop1 hB1 hn1 HL
          go_wp2_with fail
          refine hcn.mono ?_
          rintro e w5 ⟨rfl, rfl⟩
          clear hcn
          go_wp2_with (refine wpList_load_addr rfl 84 (.tmp 73) rfl (ad.add (k * 5)) rfl [.int .i64 o.kind, .int .i64 o.of_, .int .i64 o.n, .int .u8 o.fill, .int .u64 o.gen] _ HOP1.out Try.underlying84 rfl (by kernel_rfl) ?_)
          refine (bytesR o).mono ?_
          rintro e w4 ⟨g4, rfl, hg4, hF4, b4⟩
          obtain ⟨hL1, hg1, hW1, hB1, hadB⟩ := HL1.out
          have hop4 := HOP1.out.below b4
          have hL4 := hL1.below b4
          have hW4 := hW1.below b4
          have hB4 := below_step hB1 b4
          have s1 := hop4.c1
          have hap := hL4.append hg1 (by omega) (by omega) hF4 (fun q hq hd => by
            have h1 := (hL1.ok q hd).2
            omega) (Nat.le_refl _) (op23_bytes o) (op23_short o) o.of_
          have hng : ¬ okd g4 ∧ g4 ≠ h2 ∧ ¬ okw g4 := ⟨fun h => by have := (hL1.ok _ h).2; omega, fun h => by have := hL1.h.lt; omega, fun h => by have := (hW1.ok _ h).2.1; omega⟩
          have HL4 := hid (And.intro hL4 (And.intro hW4 (And.intro hB4 (And.intro hadB (And.intro hop4 (And.intro hF4 hng))))))
          clear hL1 hg1 hW1 hB1 hadB hop4 hL4 hW4 hB4 hF4 b4 HL1 HOP1 hng
          go_wp2_with fail
          refine hap.mono ?_
          rintro e w5 ⟨E, D5, l5, okd5, rfl, hL5, hA5, hC5, hok5⟩
          obtain ⟨hL4, hW4, hB4, hadB, hop4, hF4, hng⟩ := HL4.out
          have hop5 := hop4.chg hC5 (fun hd => by
            rcases hd with hd | hd
            · have := (hL4.ok _ hd).1; omega
            · have := hL4.lo; omega)
          have hB5 : Below w.heap.size w w5 := hB4.trans (hC5.below_ (B := w.heap.size) (by have := hL4.lo; have := hL4.h.lt; omega) (fun q hq => by
            rcases hq with hq | hq
            · exact (hL4.ok q hq).1
            · have := hL4.lo; omega))
          have hW5 := hW4.step hC5 hok5 (.inl rfl)
          have hF5 : RB w5 (fun q => q = g4) (some ⟨g4, 0, none⟩) o.bytes := RB_step hF4 hC5 (fun q hq hd => by
            rcases hd with hd | hd
            · exact hng.1 (hq ▸ hd)
            · exact hng.2.1 (hq ▸ hd))
          have hcn := count_any hL5.d
          obtain ⟨n5, hn5⟩ : ∃ n, D5.ws.length = n := ⟨_, rfl⟩
          rw [hn5] at hcn
          have h5b : n5 ≤ 1000000 := by have := hL5.ws; omega
          have h15 : n1 ≤ n5 := by have := hA5.mon; have := HN1.out; omega
          have hpow : E = 61 → (n5 : Int) - (n1 : Int) < need o.bytes.length := by have h := hA5.pow; rw [HN1.out, hn5] at h; exact h
          have hnd := fun (W : World) => need_any (w := W) (o.bytes.length : Int) (by have := op23_short o; omega)
          have hyes := hA5.yes
          have hno := hA5.no
          generalize need (o.bytes.length : Int) = nd at hpow hnd
          have HR := hid (And.intro hL5 (And.intro hB5 (And.intro hadB (And.intro hyes (And.intro hno (And.intro hW5 (And.intro hF5 (And.intro hop5 hng.2.2))))))))
          have HPW := hid hpow
          clear hL5 hB5 hadB hyes hno hW5 hF5 hop5 hpow hA5 hC5 hok5 hL4 hW4 hB4 hop4 hF4 hng hn5 HL4 hap s1 HN1
          go_wp2_with fail
          refine hcn.mono ?_
          rintro e w6 ⟨rfl, rfl⟩
          clear hcn
          go_upto_if 89 with (fail)
          go_cut [8] (fun v wc2 => ∃ (D5 : DM) (okd5 okw5 : Nat → Prop) (l5 : List SR), LG w.heap.size p h2 okd5 D5 2 60 9 l5 (k + 1) wc2 ∧ Wants w.heap.size h2 okd5 okw5 v l5 wc2 ∧ Below w.heap.size w wc2)
          case first =>
            by_cases hE : E = 0
            · subst hE
              obtain ⟨hL5, hB5, hadB, hyes, hno, hW5, hF5, hop5, hnw⟩ := HR.out
              have hl5 := (hyes rfl).1
              have hfew := hL5.few
              have hlen5 : l5.length = l.length + 1 := by rw [hl5]; simp
              have hs5 := hB5.size
              have hS0 : OpC ad k o w5 ∧ RB w5 (fun q => q = g4) (some ⟨g4, 0, none⟩) o.bytes := ⟨hop5, hF5⟩
              have HS0 := hid hS0
              have HL := hid (And.intro hL5 (And.intro hB5 (And.intro hadB (And.intro hl5 (And.intro hW5 (And.intro hfew (And.intro hlen5 (And.intro hs5 hnw))))))))
              clear hL5 hB5 hadB hyes hno hl5 hW5 HR hfew hlen5 hs5 hF5 hop5 hS0 hnw HPW hnd
              go_wp2_with fail
              refine wp_region_plan [11] (.take 0 (.take 1 (.take 2 (.take 3 (.take 4 (.take 5 (.take 6 (.take 7 (.take 8 (.run 9 (.run 10 (.tail 11 .done)))))))))))) (fun W' => OpC ad k o W' ∧ RB W' (fun q => q = g4) (some ⟨g4, 0, none⟩) o.bytes) (by kernel_rfl) (by kernel_rfl) (fun c a d v w h => by cases d <;> exact h) HS0.out ?_
              iterate 7 (apply plan_take rfl rfl; (case hy => (intro w' hS; have s1 := hS.1.c1; clear hS; go_simp; try exact rfl)); go_simp)
              apply plan_take rfl rfl
              case hy =>
                intro w' hS
                refine exec_convert 22 9 (.tmp 96) (.slice (some ⟨g4, 0, none⟩) o.bytes.length o.bytes.length) (.string (strOfNums o.bytes)) ?_ ?_ (conv_str (Kd.F_now hS.2))
                · exact rfl
                · exact rfl
              go_simp
              apply plan_take rfl rfl
              case hy => (intro w' hS; clear hS; go_simp; try exact rfl)
              go_simp
              refine plan_run_on rfl rfl (fun K hK => ?_)
              go_simp
              refine hK _ _ _ (fun _ h => h) ⟨HS0.out.1.below (W := w5) (below_drew (below_alloc (Below.refl _ _) _)), RB_below HS0.out.2 (below_drew (below_alloc (Below.refl _ _) _))⟩ ?_
              clear hK K
              refine plan_run rfl (fun K hK => ?_)
              obtain ⟨hL5, hB5, hadB, hl5, hW5, hfew, hlen5, hs5, hnw⟩ := HL.out
              have hb56 : Below w5.heap.size w5 w5.drew := below_drew (Below.refl _ _)
              have hW6 := hW5.below hb56
              have hR6 := hW6.r
              obtain ⟨A6, c6, hv6, hR6⟩ := hR6
              refine Kd.R_append_step KWant (w0 := w5.drew) (W := w5.drew) w.heap.size rfl (.tmp 90) (.tmp 99) 86 88 (.agg #[.int .i64 0, .string ⟨#[]⟩]) 24 rfl Try.underlying86 info_rec23 rfl (by decide) (by decide) (.slice A l.length c) (l.map (fun r => (r.kind, strOfNums r.bytes))) (o.of_, strOfNums o.bytes) [.int .i64 o.of_, .string (strOfNums o.bytes)]
                (orNew okw w5) (fun _ => False) rfl rfl ⟨[.int .i64 o.of_], [.string (strOfNums o.bytes)], rfl, rfl, rfl⟩ (fun q hq => hq.elim) (fun q hq => .inr (Nat.le_trans hb56.size hq)) (Kd.R_mono hR6 (fun _ h => .inl h)) (Below.refl _ _) (Nat.le_trans hs5 hb56.size) (by rw [List.length_map]; omega) ?_
              intro v3 w3 hR3 _ hg3 _
              obtain ⟨hW3, hC3⟩ := hW5.put (g := 9) (t := (tailOf l : Int)) (fun q hq => (hL5.ok q hq).2) hL5.h.lt hb56 hR3 hg3
              rw [← hl5] at hW3
              have hL3 := hL5.chg hC3 (fun q hq => ⟨(hW5.ok q hq).2.2.1, (hW5.ok q hq).2.2.2⟩)
              have hB3 : Below w.heap.size w w3 := hB5.trans (hC3.below_ hs5 (fun q hq => (hW5.ok q hq).1))
              have hop3 := HS0.out.1.chg hC3 (fun hq => by have := (hW5.ok _ hq).1; omega)
              have hF3 : RB w3 (fun q => q = g4) (some ⟨g4, 0, none⟩) o.bytes := RB_step HS0.out.2 hC3 (fun q hq e => hnw (hq ▸ e))
              have HF := hid (And.intro hL3 (And.intro hW3 hB3))
              refine hK _ _ _ (fun _ h => h) ⟨hop3, hF3⟩ ?_
              clear hK K hF3 hW3 hC3 hL3 hB3 hop3 hR3 hg3 hW6 hR6 hL5 hB5 hW5
              go_simp
              refine plan_tail_on rfl rfl (fun K hK => ?_)
              go_simp
              refine hK _ _ (plan_done ?_)
              clear hK K
              go_wp2_with fail
              go_meet
              case rel => exact ⟨D5, okd5, _, l5, HF.out.1, HF.out.2.1, HF.out.2.2⟩
            · have hEb : (E == 0) = false := by simpa using hE
              by_cases hE6 : E = 61
              · subst hE6
                have hpw := HPW.out rfl
                clear hE hEb
                go_wp2_with fail
                refine (hnd _).mono ?_
                rintro e w7 ⟨rfl, rfl⟩
                go_wp2_with fail
                go_meet
                case rel =>
                  obtain ⟨hL5, hB5, hadB, hyes, hno, hW5, hF5, hop5, hnw⟩ := HR.out
                  rw [hno (by decide)] at hL5
                  exact ⟨D5, okd5, okw, l, hL5, hW5, hB5⟩
              · have hEb6 : (E == 61) = false := by simpa using hE6
                go_wp2_with fail
                go_meet
                case rel =>
                  obtain ⟨hL5, hB5, hadB, hyes, hno, hW5, hF5, hop5, hnw⟩ := HR.out
                  rw [hno hE] at hL5
                  exact ⟨D5, okd5, okw, l, hL5, hW5, hB5⟩
          case rest =>
            clear HR HPW hnd
            obtain ⟨D5, okd5, okw5, l5, hL5, hW5, hB5⟩ := hcut
            obtain ⟨⟨A7, c7, rfl, hR7⟩, hokw7⟩ := hW5
            have hon := on_any hL5.d
            have HL5 := hid (And.intro hL5 (And.intro hR7 (And.intro hokw7 hB5)))
            clear hL5 hR7 hokw7 hB5
            go_wp2_with fail
            refine hon.mono ?_
            rintro e w6 ⟨rfl, hd6, c6⟩
            obtain ⟨hL5, hR7, hokw7, hB5⟩ := HL5.out
            have hL6 := hL5.alike (D' := { D5 with left := -1, gone := false }) rfl rfl hd6 c6
            have hW6 := (⟨⟨A7, c7, rfl, hR7⟩, hokw7⟩ : Wants w.heap.size h2 okd5 okw5 (.slice A7 l5.length c7) l5 wc).step (c6.mono (fun _ h => .inl h)) (fun q h => .inl h) (.inl rfl)
            have hB6 := hB5.trans (c6.below_ (B := w.heap.size) hB5.size (fun q hq => (hL5.ok q hq).1))
            have hW6o := hW6
            have hg6 : ({ D5 with left := -1, gone := false } : DM).gone = false := rfl
            generalize ({ D5 with left := -1, gone := false } : DM) = D6 at hL6 hg6
            have hfew := hL6.few
            have hopn := hL6.open_ hg6 (by decide) (by decide)
            obtain ⟨_, hokw6⟩ := hW6
            have HL := hid (And.intro hL6 (And.intro hg6 (And.intro hW6o (And.intro hB6 hfew))))
            clear hL6 hg6 hW6o hB6 hfew hL5 hR7 hokw7 hB5 hd6 c6 hon HL5 hokw6
            go_wp2_with fail
            refine hopn.mono ?_
            rintro e w7 ⟨h3, A8, c8, rfl, hL7, hlo7, hR8, b7⟩
            obtain ⟨hL6, hg6, hW6, hB6, hfew⟩ := HL.out
            have hW7 := hW6.below b7
            have htl : Calls Try.prog 45 #[.slice A8 l5.length c8, .slice A7 l5.length c7] w7 fun e w' => e = .returned (.bool true) ∧ Below w7.heap.size w7 w' := by
              obtain ⟨⟨A9, c9, e9, hR9⟩, _⟩ := hW7
              exact told_R hR8 hR9 rfl (by omega)
            have hB7 := below_step hB6 b7
            have hW7n : Wants w.heap.size h3 okd5 okw5 (.slice A7 l5.length c7) l5 w7 := ⟨hW7.r, fun q hq => ⟨(hW7.ok q hq).1, (hW7.ok q hq).2.1, (hW7.ok q hq).2.2.1, fun e => by have := (hW6.ok q hq).2.1; omega⟩⟩
            have HL7 := hid (And.intro hL7 (And.intro hg6 (And.intro hW7n hB7)))
            clear hL7 hlo7 b7 hL6 hg6 hW6 hB6 hfew hR8 hW7 hW7n hB7 hopn HL
            go_wp2_with fail
            refine htl.mono ?_
            rintro e w8 ⟨rfl, b8⟩
            obtain ⟨hL7, hg6, hW7n, hB7⟩ := HL7.out
            have hL8 := hL7.below b8
            have hW8 := hW7n.below b8
            have hB8 := below_step hB7 b8
            have HF := hid (And.intro hL8 (And.intro hg6 (And.intro hW8 hB8)))
            clear htl hL7 hg6 hW7n hB7 hL8 hW8 hB8 b8 HL7
            go_wp2_with fail
            go_roundw
            case rel =>
              obtain ⟨hL8, hg6, hW8, hB8⟩ := HF.out
              exact ⟨k + 1, h3, D6, okd5, okw5, l5, by omega, by omega, rfl, by go_num, hL8, hg6, hW8, hB8⟩
            case measure => simp [intOf]; omega
    · by_cases hlt : k < sl.length
      · have h60 : k = 60 := by omega
        subst h60
        have hlt' : (60 : Int) < (sl.length : Int) := by omega
        have hlt2 : ((60 : Nat) : Int) < (sl.length : Int) := by omega
        clear hL hW hC2 hC1
        go_wp2
        go_ret
        exact ⟨rfl, hB⟩
      · have hlt' : ¬ (k : Int) < (sl.length : Int) := by omega
        clear hL hW hC2 hC1
        go_wp2
        go_ret
        exact ⟨rfl, hB⟩
theorem cuts_row {w : World} {A1 A2 : Option Addr} {c1 c2 : Nat} {sl : List Op23} {cl : List Int} (hC1 : KOp23.C w A1 sl.length sl) (hC2 : KI64.C w A2 cl.length cl) (g1 : (∀ x ∈ sl, x.ok) ∧ sl.length * 40 ≤ 140737488351232) (g2 : (∀ x ∈ cl, -9223372036854775808 ≤ x ∧ x ≤ 9223372036854775807) ∧ cl.length * 8 ≤ 140737488351232) :
    Calls Try.prog 11 #[.slice A1 sl.length c1, .slice A2 cl.length c2] w fun e w' => e = .returned (.bool true) ∧ Below w.heap.size w w' :=
  cuts_any hC1 hC2 (by have := g1.2; omega) (by have := g2.2; omega) g1.1 g2.1
end Go.Proofs.Ytekhmkfiepnnkaa

set_option linter.unusedVariables false
set_option linter.unusedSimpArgs false
namespace Go.Proofs.Ytekhmkfiepnnkaa
open Go.ChangeShapes Go.WideShapes Go.ChangeAt Go.RowKit Go.Proofs.YtekhmkfiepnnkaaW.PrintWords
open Go.ChangeMaps (open_string shut_string)
set_option linter.unusedVariables false
theorem halfCuts_own : ownKnob Try.prog.godebug = none := by kernel_rfl
theorem halfCuts_laid : laidOutB Try.prog = true := by kernel_rfl
set_option maxRecDepth 100000 in
theorem halfCuts_lifted (os : Os) (started : os.Started) (H : Type) (enc : TypeId × Value → H) :
    ReturnsInHanded {} Try.checked os 11 .any (Rows.halfCutsSpec.pre6 enc Try.prog Try.f11 Rows.halfCutsRow.domain false) (Rows.halfCutsSpec.post enc Try.prog Try.f11 false true false false) := by
  refine returnsInHanded_of_change_sized (C := Try.checked) halfCuts_own started (by kernel_rfl) Try.func11
    (ChangeSpec.witness6 (enc := enc) (C := Try.checked) false ⟨#[], #[.slice none 0 0, .slice none 0 0], []⟩ 8 (by kernel_rfl) (by kernel_rfl) (by kernel_rfl) (by kernel_rfl)) ?_
  intro W base args ds gs before hval0 hW hcnd hsz0 _
  have hsz : (DataW.weightsEach Try.prog (Try.f11.params.toList ++ Rows.halfCutsSpec.plain.varTypes Try.prog) (ds ++ gs)).all (· ≤ reachBytes) = true := hsz0
  have hval : ∀ (j : Nat) t v, Try.f11.params[j]? = some t → args[j]? = some v → Value.okWide Try.prog W .any base t v := hval0
  have hW' := hW
  obtain ⟨p, q, hA0, hV, rfl, hfz, hnd⟩ := hW
  have hA : DataW.TrodAll enc Try.prog W 0 (fun _ => true) true Try.f11.params.toList args.toList ds p := hA0
  rw [Try.params11] at hA hval hsz
  obtain ⟨v0, vs0, d0, ds0, p0, q0, hargs, rfl, rfl, h0, r0⟩ := trodAll_cons hA
  obtain ⟨v1, vs1, d1, ds1, p1, q1, rfl, rfl, rfl, h1, r1⟩ := trodAll_cons r0
  obtain ⟨rfl, rfl, rfl⟩ := trodAll_nil r1
  obtain rfl : args = #[v0, v1] := by cases args; simp_all
  obtain ⟨rfl, rfl⟩ := trodVars_none hV
  have lt0 : ∀ x ∈ p0, x.block < W.heap.size := by obtain ⟨m, hm⟩ := h0; exact DataW.trod_lt m _ _ _ hm
  obtain ⟨A0, len0, c0, rfl⟩ := okWide_slice Try.underlying78 (hval 0 78 v0 rfl rfl)
  obtain ⟨l0, rfl, hl0, k0, g0⟩ := opens_slice_arg opens_ops23 hsz (j := 0) (t := 78) rfl rfl h0
  have lt1 : ∀ x ∈ p1, x.block < W.heap.size := by obtain ⟨m, hm⟩ := h1; exact DataW.trod_lt m _ _ _ hm
  obtain ⟨A1, len1, c1, rfl⟩ := okWide_slice Try.underlying95 (hval 1 95 v1 rfl rfl)
  obtain ⟨l1, rfl, hl1, k1, g1⟩ := opens_slice_arg opens_ints hsz (j := 1) (t := 95) rfl rfl h1
  clear hA0 hval0 hsz0 hsz
  refine (cuts_row k0 k1 g0 g1).mono fun e W' ⟨he, bel⟩ => ?_
  subst he
  exact ⟨_, rfl, _, _, _, [], _, [], hW', trodAll_mk1 (shut_bool Try.underlying4 _), (trodAll_cons_mk (Below.trod halfCuts_laid (by kernel_rfl) (of_decide_eq_true (by kernel_rfl)) h0 bel lt0) (trodAll_cons_mk (Below.trod halfCuts_laid (by kernel_rfl) (of_decide_eq_true (by kernel_rfl)) h1 bel lt1) trodAll_mk0)), rfl, bel.frame _, fun h => by cases h⟩
theorem halfCuts_over : Rows.halfCutsRow.holds Try.pinned (OpenSpec.ofChange Rows.halfCutsSpec) :=
  OpenClaim.holds_of_wide 11 Try.f11 rfl rfl rfl rfl rfl rfl rfl ⟨rfl, rfl, rfl, rfl, rfl⟩ rfl rfl rfl rfl rfl (by kernel_rfl) Try.func11 (by kernel_rfl)
    (of_decide_eq_true (by kernel_rfl)) (by unfold Func.isWrapper; first | (rw [if_pos (by decide +kernel)]; kernel_rfl) | (rw [if_neg (by decide +kernel)]; exact ⟨rfl, rfl⟩))
    (fun os started H enc _ => halfCuts_lifted os started H enc)
/-- The row, for the claim. -/
theorem halfCuts_holds : Rows.HalfCutsSaid := halfCuts_over
#print axioms halfCuts_holds
end Go.Proofs.Ytekhmkfiepnnkaa
