/- Law 04: NamesMembers, walked. -/
import Derived.Test.YthfoafjjenegaaaDoorNRd
import Derived.Test.YthfoafjjenegaaaDoorNPlain2
set_option linter.unusedVariables false
set_option linter.unusedSimpArgs false
namespace Go.Proofs.YthfoafjjenegaaaDoor
open Go.RowKit Go.Sort Go.Proofs.YthfoafjjenegaaaDoorW.PrintWords Go.Proofs.YthfoafjjenegaaaDoor.KCarveNA Go.Proofs.YthfoafjjenegaaaDoor.KCarveNB
open Classical

noncomputable def findI (l : List ByteArray) (s : ByteArray) : Int := if s ∈ l then ((idxS l s : Nat) : Int) else 0
theorem nfind_any {w : World} {A : Option Addr} {c : Nat} {l : List ByteArray} (h : Rd w A c l) (s : ByteArray) : Calls Tryd.prog 26 #[.slice A l.length c, .string s] w fun e w' => e = .returned (.tuple #[.int .i64 (findI l s), .bool (has l s)]) ∧ Below w.heap.size w w' :=
  (names_Find.calls (l.length + 1) A c l s (findI l s) (has l s) w h.C h.le (nfind_f l s h.C.2.1 (by omega))).mono fun e w' h => ⟨h.1, by first | exact h.2 | exact h.2.below⟩
theorem rfind_any {w : World} {A : Option Addr} {c : Nat} {l : List ByteArray} (h : Rd w A c l) (s : ByteArray) : Calls Tryd.prog 30 #[.slice A l.length c, .string s] w fun e w' => e = .returned (.tuple #[.int .i64 (findI l s), .bool (has l s)]) ∧ Below w.heap.size w w' :=
  (foundryref04_Find.calls (l.length + 1) A c l s (findI l s) (has l s) w h.C h.le (find_f l s h.C.2.1 (by omega))).mono fun e w' h => ⟨h.1, by first | exact h.2 | exact h.2.below⟩
theorem idx_in {l : List ByteArray} {s : ByteArray} (h : s ∈ l) : ∃ x : Nat, ∃ hx : x < l.length, findI l s = (x : Int) ∧ l[x] = s := by
  have h1 : idxS l s < l.length := by unfold idxS; exact List.findIdx_lt_length_of_exists ⟨s, h, by simp⟩
  refine ⟨idxS l s, h1, by unfold findI; rw [if_pos h], ?_⟩
  have h2 := List.findIdx_getElem (p := fun x => decide (x = s)) (xs := l) (w := h1)
  exact of_decide_eq_true h2
set_option maxRecDepth 100000 in
set_option maxHeartbeats 16000000 in
theorem members_any {w : World} {A0 : Option Addr} {c0 : Nat} {l : List ByteArray} (s : ByteArray) (hw : NOK w) (rl : Rd w A0 c0 l) (hl : l.length * 16 ≤ 140737488351232) :
    Calls Tryd.prog 8 #[.slice A0 l.length c0, .string s] w fun e w' => e = .returned (.bool true) ∧ Below w.heap.size w w' := by
  have hlv := live_any hw
  have hle := setS_len l
  have hso := setS_sorted l
  have hme : ∀ x, x ∈ setS l ↔ x ∈ l := fun x => mem_setS
  have hset := fun (W : World) (h : KS.C W A0 l.length l) => Set_any (w := W) (c := c0) h (by omega)
  generalize setS l = S at hle hso hme hset
  have HS := hid (And.intro hso hme)
  have HSET := hid hset
  clear hso hme hset hw
  go_enter Tryd.func8, Tryd.ntmps8
  go_wp2_with fail
  refine hlv.mono ?_
  rintro e w1 ⟨rfl, b1⟩
  replace rl := rl.below b1
  clear hlv
  go_wp2_with fail
  refine (HSET.out w1 rl.C).mono ?_
  rintro e w2 ⟨A2, c2, rfl, hR2, b2⟩
  replace rl := rl.below b2
  have rs := Rd.of_R hR2
  replace b2 := below_step b1 b2
  clear b1 hR2 HSET
  have hl9 : l.length ≤ 8796093021952 := by omega
  have hS9 : S.length ≤ 8796093021952 := by omega
  have HRL := hid (And.intro rl (And.intro rs b2))
  clear rl rs b2 hl
  go_upto_block 0 with (fail)
  go_cut [] (fun wc => Below w2.heap.size w2 wc)
  case first =>
    go_wp2_with fail
    go_loopw [6] (fun i wr => ∃ j : Nat, j ≤ S.length ∧ i = .int .i64 ((j : Int) + 1) ∧ Below w2.heap.size w2 wr) (fun i _ => S.length + 1 - (intOf i).toNat)
    case atStart => exact ⟨0, Nat.zero_le _, rfl, Below.refl _ _⟩
    case round =>
      obtain ⟨j, hj, rfl, hB⟩ := hrel
      by_cases hlt : j + 1 < S.length
      · have hltI : (j : Int) + 1 < (S.length : Int) := by omega
        obtain ⟨rl, rs, b2⟩ := HRL.out
        cases A2 with
        | none =>
          have := KS_none rs.C
          subst this
          simp at hlt
        | some ad =>
        have hc1 := pw_cell_below hB (KS_at rs.C (i := j) (by omega))
        have hc2 := pw_cell_below hB (KS_at rs.C (i := j + 1) hlt)
        have hcm : cmpV S[j] S[j + 1] = -1 := by unfold cmpV; rw [if_pos (HS.out.1.lt (by omega) hlt (by omega))]
        have hcc := fun W : World => Cmp_any (w := W) S[j] S[j + 1]
        rw [hcm] at hcc
        have HCC := hid hcc
        have hjn : j < S.length := by omega
        have hwr : IntKind.i64.wrap (j : Int) = (j : Int) := by rw [IntKind.wrap_i64]; omega
        clear hcm hcc rl rs b2
        generalize S[j] = x at hc1 HCC
        generalize S[j + 1] = y at hc2 HCC
        go_wp2_with fail
        refine wp_region_plan [] (.take 0 (.take 1 (.take 2 (.take 3 (.take 4 (.take 5 (.take 6 (.take 7 (.take 8 (.run 9 (.take 10 .done))))))))))) (fun W' => W'.cell? (ad.add j) = some (.string x) ∧ W'.cell? (ad.add (j + 1)) = some (.string y)) (by kernel_rfl) (by kernel_rfl) (fun c a d v w h => by cases d <;> exact h) ⟨hc1, hc2⟩ ?_
        iterate 9 (apply plan_take rfl rfl; (case hy => (intro w' hS; obtain ⟨s1, s2⟩ := hS; go_simp; try exact rfl)); go_simp)
        refine plan_run_on rfl rfl (fun K hK => ?_)
        go_simp
        refine (HCC.out _).mono ?_
        rintro e w4 ⟨rfl, b4⟩
        refine hK _ _ _ (fun _ h => h) ⟨pw_cell_below (w := wr.drew) b4 hc1, pw_cell_below (w := wr.drew) b4 hc2⟩ ?_
        clear hK K
        go_simp
        apply plan_take rfl rfl
        case hy => (intro w' hS; clear hS; go_simp; try exact rfl)
        go_simp
        refine plan_done ?_
        have hB4 := below_step hB.drew b4
        clear hc1 hc2 hB b4 hwr
        go_wp2_with fail
        go_roundw
        case rel => exact ⟨j + 1, by omega, by go_num, hB4⟩
        case measure => simp [intOf]; omega
      · have hltI : ¬ (j : Int) + 1 < (S.length : Int) := by omega
        go_wp2_with fail
        go_meet
        case rel => exact hB
  case rest =>
    have hB1 := hcut
    clear hcut
    go_upto_block 2 with (fail)
    go_cut [] (fun wc2 => Below w2.heap.size w2 wc2)
    case first =>
      go_wp2_with fail
      go_loopw [7] (fun i wr => ∃ j : Nat, j ≤ S.length ∧ i = .int .i64 (j : Int) ∧ Below w2.heap.size w2 wr) (fun i _ => S.length - (intOf i).toNat)
      case atStart => exact ⟨0, Nat.zero_le _, rfl, hB1⟩
      case round =>
        clear hB1
        obtain ⟨j, hj, rfl, hB⟩ := hrel
        by_cases hlt : j < S.length
        · have hltI : (j : Int) < (S.length : Int) := by omega
          obtain ⟨rl, rs, b2⟩ := HRL.out
          cases A2 with
          | none =>
            have := KS_none rs.C
            subst this
            simp at hlt
          | some ad =>
          have hc1 := pw_cell_below hB (KS_at rs.C hlt)
          have hfd := nfind_any (rl.below hB) S[j]
          rw [has_true ((HS.out.2 _).1 (List.getElem_mem hlt))] at hfd
          generalize findI l S[j] = q at hfd
          generalize S[j] = x at hc1 hfd
          clear rl rs b2
          go_wp2_with fail
          refine hfd.mono ?_
          rintro e w4 ⟨rfl, b4⟩
          have hB4 := below_step hB b4
          clear hc1 hB b4 hfd
          go_wp2_with fail
          go_roundw
          case rel => exact ⟨j + 1, by omega, by go_num, hB4⟩
          case measure => simp [intOf]; omega
        · have hltI : ¬ (j : Int) < (S.length : Int) := by omega
          go_wp2_with fail
          go_meet
          case rel => exact hB
    case rest =>
      have hB2 := hcut
      clear hcut hB1
      go_wp2_with fail
      go_loopw [10] (fun i wr => ∃ j : Nat, j ≤ l.length ∧ i = .int .i64 (j : Int) ∧ Below w2.heap.size w2 wr) (fun i _ => l.length - (intOf i).toNat)
      case atStart => exact ⟨0, Nat.zero_le _, rfl, hB2⟩
      case round =>
        clear hB2
        obtain ⟨j, hj, rfl, hB⟩ := hrel
        by_cases hlt : j < l.length
        · have hltI : (j : Int) < (l.length : Int) := by omega
          obtain ⟨rl, rs, b2⟩ := HRL.out
          have hin : l[j] ∈ S := (HS.out.2 _).2 (List.getElem_mem hlt)
          obtain ⟨q, hq, hqi, hqe⟩ := idx_in hin
          cases A0 with
          | none =>
            have := KS_none rl.C
            subst this
            simp at hlt
          | some al =>
          cases A2 with
          | none =>
            have := KS_none rs.C
            subst this
            simp at hq
          | some ad =>
          have hc1 := pw_cell_below hB (KS_at rl.C hlt)
          have hc2 := pw_cell_below hB (KS_at rs.C hq)
          rw [hqe] at hc2
          have hfd := nfind_any (rs.below hB) l[j]
          rw [has_true hin, hqi] at hfd
          generalize l[j] = x at hc1 hc2 hfd
          have hqI : (q : Int) < (S.length : Int) := by omega
          clear rl rs b2 hin hqi hqe
          go_wp2_with fail
          refine hfd.mono ?_
          rintro e w4 ⟨rfl, b4⟩
          have hB4 := below_step hB b4
          have d1 := pw_cell_below b4 hc1
          have d2 := pw_cell_below b4 hc2
          clear hc1 hc2 hB b4 hfd
          go_wp2_with fail
          refine wp_region_plan [] (.take 0 (.take 1 (.take 2 (.take 3 (.take 4 (.take 5 (.take 6 (.take 7 (.take 8 (.take 9 (.take 10 (.take 11 (.take 12 .done))))))))))))) (fun W' => W'.cell? (al.add j) = some (.string x) ∧ W'.cell? (ad.add q) = some (.string x)) (by kernel_rfl) (by kernel_rfl) (fun c a d v w h => by cases d <;> exact h) ⟨d1, d2⟩ ?_
          iterate 13 (apply plan_take rfl rfl; (case hy => (intro w' hS; obtain ⟨s1, s2⟩ := hS; go_simp; try exact rfl)); go_simp)
          refine plan_done ?_
          have hB5 := hB4.drew
          clear d1 d2 hB4
          go_wp2_with fail
          go_roundw
          case rel => exact ⟨j + 1, by omega, by go_num, hB5⟩
          case measure => simp [intOf]; omega
        · have hltI : ¬ (j : Int) < (l.length : Int) := by omega
          obtain ⟨rl, rs, b2⟩ := HRL.out
          have f1 := nfind_any (rl.below hB) s
          have rs3 := rs.below hB
          have hhs : has S s = has l s := by
            by_cases h : s ∈ l
            · rw [has_true h, has_true ((HS.out.2 s).2 h)]
            · rw [has_false h, has_false (fun k => h ((HS.out.2 s).1 k))]
          have f2 := fun (W : World) (h : Below wr.heap.size wr W) => nfind_any (rs3.below h) s
          rw [hhs] at f2
          have b3 := b2.trans (hB.mono b2.size)
          generalize findI l s = q1 at f1
          generalize findI S s = q2 at f2
          generalize has l s = hh at f1 f2
          have F2 := hid f2
          clear f2 rl rs hhs hB b2 rs3
          go_wp2_with fail
          refine f1.mono ?_
          rintro e w4 ⟨rfl, b4⟩
          have f3 := F2.out w4 b4
          replace b4 := below_step b3 b4
          clear b3 f1
          go_wp2_with fail
          refine f3.mono ?_
          rintro e w5 ⟨rfl, b5⟩
          replace b5 := below_step b4 b5
          clear b4 f3
          go_wp2
          go_ret
          exact ⟨by first | rfl | simp, b5⟩
end Go.Proofs.YthfoafjjenegaaaDoor
