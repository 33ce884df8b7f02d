/- Law 04: NamesLonger, walked. -/
import Derived.Test.YthfoafjjenegaaaDoorLaw04Z
import Derived.Test.YthfoafjjenegaaaDoorNPlain
import Derived.Deep.DeepCutAuto
set_option linter.unusedVariables false
set_option linter.unusedSimpArgs false
namespace Go.Proofs.YthfoafjjenegaaaDoor
open Go.RowKit Go.Sort Go.Proofs.YthfoafjjenegaaaDoorW.PrintWords Go.Proofs.YthfoafjjenegaaaDoor.KCarveNA Go.Proofs.YthfoafjjenegaaaDoor.KCarveNB
open Classical

theorem right_three (s : ByteArray) : rightE s = 0 ∨ rightE s = 3 ∨ rightE s = 12 := by
  unfold rightE
  split
  · exact .inr (.inr rfl)
  · split
    · exact .inr (.inr rfl)
    · split
      · exact .inr (.inl rfl)
      · split
        · exact .inr (.inr rfl)
        · exact .inl rfl
theorem right_zero {s : ByteArray} (h : rightE s = 0) : s.size ≠ 0 ∧ letB (bt s 0) = true ∧ (∀ j : Nat, j < s.size → wordB (bt s j) = true) ∧ s.size ≤ 32 := by
  unfold rightE at h
  split at h
  · omega
  · rename_i h1
    split at h
    · omega
    · rename_i h2
      split at h
      · omega
      · refine ⟨fun e => h1 (.inl e), ?_, fun j hj => ?_, by omega⟩
        · cases e : letB (bt s 0) with
          | true => rfl
          | false => exact absurd (.inr e) h1
        · cases e : wordB (bt s j) with
          | true => rfl
          | false => exact absurd ⟨j, hj, e⟩ h2
theorem size_app (a b : ByteArray) : (a ++ b).size = a.size + b.size := by rw [← bl_size, ← bl_size, ← bl_size, bl_append, List.length_append]
theorem bt_app_l (a b : ByteArray) {j : Nat} (h : j < a.size) : bt (a ++ b) j = bt a j := by
  have h1 : j < (bl a).length := by rw [bl_size]; exact h
  have h2 : j < (bl (a ++ b)).length := by rw [bl_append, List.length_append]; omega
  rw [bt_get _ h2, bt_get _ h1]
  congr 2
  simp only [bl_append]
  rw [List.getElem_append_left h1]
theorem bt_app_r (a b : ByteArray) {j : Nat} (h : j < b.size) : bt (a ++ b) ((a.size + j : Nat) : Int) = bt b j := by
  have h1 : j < (bl b).length := by rw [bl_size]; exact h
  have h2 : a.size + j < (bl (a ++ b)).length := by rw [bl_append, List.length_append, bl_size, bl_size]; omega
  rw [bt_get _ h2, bt_get _ h1]
  congr 2
  simp only [bl_append]
  rw [List.getElem_append_right (by rw [bl_size]; omega)]
  congr 1
  rw [bl_size]; omega
def one_ (m : Int) : ByteArray := strOfNums [m]
theorem one_size (m : Int) : (one_ m).size = 1 := rfl
theorem bt_one {m : Int} (h : 0 ≤ m ∧ m < 256) : bt (one_ m) 0 = m := by
  unfold bt
  rw [dif_pos (show (0 : Int).toNat < (one_ m).size by rw [one_size]; decide)]
  show ((UInt8.ofNat m.toNat).toNat : Int) = m
  rw [UInt8.toNat_ofNat']
  omega
theorem longer_right {s : ByteArray} {m : Int} (hm : 0 ≤ m ∧ m < 256) (hr : rightE s = 0) : rightE (s ++ one_ m) = if wordB m = false then 12 else if s.size = 32 then 3 else if resB (s ++ one_ m) = true then 12 else 0 := by
  obtain ⟨h1, h2, h3, h4⟩ := right_zero hr
  have hsz : (s ++ one_ m).size = s.size + 1 := by rw [size_app, one_size]
  have hlast : bt (s ++ one_ m) (s.size : Nat) = m := by
    have := bt_app_r s (one_ m) (j := 0) (by rw [one_size]; omega)
    rw [Nat.add_zero] at this
    rw [this]
    exact bt_one hm
  have hfirst : bt (s ++ one_ m) 0 = bt s 0 := bt_app_l s (one_ m) (j := 0) (by omega)
  unfold rightE
  rw [if_neg (by rw [hsz, hfirst, h2]; simp)]
  by_cases hw : wordB m = false
  · rw [if_pos hw, if_pos ⟨s.size, by omega, by rw [hlast]; exact hw⟩]
  · rw [if_neg hw, if_neg (fun ⟨j, hj, e⟩ => by
      rcases Nat.lt_or_ge j s.size with q | q
      · rw [bt_app_l s _ q, h3 j q] at e; cases e
      · have : j = s.size := by omega
        subst this
        rw [hlast] at e
        exact hw e), hsz]
    by_cases h32 : s.size = 32
    · rw [if_pos h32, if_pos (by omega)]
    · rw [if_neg h32, if_neg (by omega)]
theorem byte_conv (w : World) (m : Int) : (convert 31 9 (.slice (some ⟨w.heap.size, 0, none⟩) 1 1)).run Tryd.prog (w.alloc (.cells #[.int .u8 m] 5)) = .ok (.string (one_ m)) (w.alloc (.cells #[.int .u8 m] 5)) := by
  have hC : KB.C (w.alloc (.cells #[.int .u8 m] 5)) (some ⟨w.heap.size, 0, none⟩) 1 [m] := by
    refine Kd.C_of_reads (d := 0) ⟨rfl, by decide, fun _ => ⟨_, rfl, fun i hi => ?_⟩⟩
    obtain rfl : i = 0 := by omega
    simp [Addr.add]
  exact Kd.C_string Tryd.underlying31 Tryd.underlying5 Tryd.underlying9 hC
set_option maxRecDepth 100000 in
set_option maxHeartbeats 8000000 in
theorem longer_any {w : World} (s : ByteArray) (m : Int) (hw : NOK w) (hs : s.size ≤ 140737488351232) (hm : 0 ≤ m ∧ m < 256) : Calls Tryd.prog 5 #[.string s, .int .u8 m] w fun e w' => e = .returned (.bool true) ∧ Below w.heap.size w w' := by
  have hlv := live_any hw
  have h3 := right_three s
  have c1 := fun W : World => right_any (w := W) s (by omega)
  have HC1 := hid c1
  clear c1 hw
  by_cases hr : rightE s = 0
  · have hlr := longer_right hm hr
    have c2 := fun W : World => right_any (w := W) (s ++ one_ m) (by rw [size_app, one_size]; omega)
    have c3 := fun W : World => reserved_any (w := W) (s ++ one_ m)
    have hsz9 : s.size + (one_ m).size ≤ 9223372036854775807 := by rw [one_size]; omega
    obtain ⟨t, ht⟩ : ∃ t, s ++ one_ m = t := ⟨_, rfl⟩
    rw [ht] at hlr c2 c3
    generalize rightE t = rt at hlr c2
    generalize resB t = bt_ at hlr c3
    rw [hr] at HC1
    have HH := hid (And.intro c2 (And.intro c3 (And.intro ht hlr)))
    clear c2 c3 ht hlr hr h3
    go_enter Tryd.func5, Tryd.ntmps5
    go_wp2_with fail
    refine hlv.mono ?_
    rintro e w1 ⟨rfl, b1⟩
    clear hlv
    go_wp2_with fail
    refine (HC1.out _).mono ?_
    rintro e w2 ⟨rfl, b2⟩
    replace b2 := below_step b1 b2
    clear b1
    have hcv := byte_conv w2 m
    have ht := HH.out.2.2.1
    have b3 : Below w.heap.size w (w2.alloc (.cells #[.int .u8 m] 5)) := below_step b2 (below_alloc (Below.refl _ _) _)
    go_wp2_with fail
    generalize w2.alloc (.cells #[.int .u8 m] 5) = w3 at b3 ⊢
    clear hcv ht b2
    refine (HH.out.1 _).mono ?_
    rintro e w4 ⟨rfl, b4⟩
    replace b4 := below_step b3 b4
    clear b3
    go_upto_region 7 with (fail)
    go_cut [7] (fun b wc => b = .bool (wordB m) ∧ wc = w4)
    case first =>
      obtain ⟨hm0, hm1⟩ := hm
      have hcl : (97 ≤ m ∧ m ≤ 122) ∨ (65 ≤ m ∧ m ≤ 90) ∨ m = 95 ∨ (48 ≤ m ∧ m ≤ 57) ∨ (m < 48) ∨ (57 < m ∧ m < 65) ∨ (90 < m ∧ m < 95) ∨ (95 < m ∧ m < 97) ∨ (122 < m) := by omega
      rcases hcl with hc | hc | hc | hc | hc | hc | hc | hc | hc
      · have hwb : wordB m = true := by unfold wordB letB digB; simp <;> omega
        have HWB := hid hwb
        clear hwb
        obtain ⟨hc1, hc2⟩ := hc
        go_wp2_with fail
        go_meet
        case rel => exact ⟨by first | (rw [HWB.out]; done) | (rw [HWB.out]; simp; omega), rfl⟩
      · have hwb : wordB m = true := by unfold wordB letB digB; simp <;> omega
        have HWB := hid hwb
        clear hwb
        obtain ⟨hc1, hc2⟩ := hc
        go_wp2_with fail
        go_meet
        case rel => exact ⟨by first | (rw [HWB.out]; done) | (rw [HWB.out]; simp; omega), rfl⟩
      · have hwb : wordB m = true := by unfold wordB letB digB; simp <;> omega
        have HWB := hid hwb
        clear hwb
        subst hc
        go_wp2_with fail
        go_meet
        case rel => exact ⟨by first | (rw [HWB.out]; done) | (rw [HWB.out]; simp; omega), rfl⟩
      · have hwb : wordB m = true := by unfold wordB letB digB; simp <;> omega
        have HWB := hid hwb
        clear hwb
        obtain ⟨hc1, hc2⟩ := hc
        have hne : (m == 95) = false := by simp <;> omega
        go_wp2_with fail
        go_meet
        case rel => exact ⟨by first | (rw [HWB.out]; done) | (rw [HWB.out]; simp; omega), rfl⟩
      · have hwb : wordB m = false := by unfold wordB letB digB; simp <;> omega
        have HWB := hid hwb
        clear hwb
        have hne : (m == 95) = false := by simp <;> omega
        go_wp2_with fail
        go_meet
        case rel => exact ⟨by first | (rw [HWB.out]; done) | (rw [HWB.out]; simp; omega), rfl⟩
      · have hwb : wordB m = false := by unfold wordB letB digB; simp <;> omega
        have HWB := hid hwb
        clear hwb
        obtain ⟨hc1, hc2⟩ := hc
        have hne : (m == 95) = false := by simp <;> omega
        go_wp2_with fail
        go_meet
        case rel => exact ⟨by first | (rw [HWB.out]; done) | (rw [HWB.out]; simp; omega), rfl⟩
      · have hwb : wordB m = false := by unfold wordB letB digB; simp <;> omega
        have HWB := hid hwb
        clear hwb
        obtain ⟨hc1, hc2⟩ := hc
        have hne : (m == 95) = false := by simp <;> omega
        go_wp2_with fail
        go_meet
        case rel => exact ⟨by first | (rw [HWB.out]; done) | (rw [HWB.out]; simp; omega), rfl⟩
      · have hwb : wordB m = false := by unfold wordB letB digB; simp <;> omega
        have HWB := hid hwb
        clear hwb
        obtain ⟨hc1, hc2⟩ := hc
        have hne : (m == 95) = false := by simp <;> omega
        go_wp2_with fail
        go_meet
        case rel => exact ⟨by first | (rw [HWB.out]; done) | (rw [HWB.out]; simp; omega), rfl⟩
      · have hwb : wordB m = false := by unfold wordB letB digB; simp <;> omega
        have HWB := hid hwb
        clear hwb
        have hne : (m == 95) = false := by simp <;> omega
        go_wp2_with fail
        go_meet
        case rel => exact ⟨by first | (rw [HWB.out]; done) | (rw [HWB.out]; simp; omega), rfl⟩
    case rest =>
      obtain ⟨rfl, hwc⟩ := hcut
      subst hwc
      obtain ⟨_, c3, _, hlr⟩ := HH.out
      have HC3 := hid c3
      clear HH c3
      cases hwm : wordB m with
      | false =>
        rw [hwm, if_pos rfl] at hlr
        subst hlr
        clear hwm
        go_wp2
        go_ret
        exact ⟨rfl, b4⟩
      | true =>
        rw [hwm, if_neg (by simp)] at hlr
        clear hwm
        by_cases h32 : s.size = 32
        · rw [if_pos h32] at hlr
          subst hlr
          have h32I : ((s.size : Int) == 32) = true := by rw [h32]; rfl
          have h32N : (s.size : Int) = 32 := by omega
          go_wp2
          go_ret
          exact ⟨rfl, b4⟩
        · rw [if_neg h32] at hlr
          have h32I : ((s.size : Int) == 32) = false := by simp; omega
          have h32N : ¬ (s.size : Int) = 32 := by omega
          clear h32
          cases bt_ with
          | true =>
            rw [if_pos rfl] at hlr
            subst hlr
            go_wp2_with fail
            refine (HC3.out _).mono ?_
            rintro e w5 ⟨rfl, b5⟩
            replace b5 := below_step b4 b5
            clear b4
            go_wp2
            go_ret
            exact ⟨rfl, b5⟩
          | false =>
            rw [if_neg (by simp)] at hlr
            subst hlr
            go_wp2_with fail
            refine (HC3.out _).mono ?_
            rintro e w5 ⟨rfl, b5⟩
            replace b5 := below_step b4 b5
            clear b4
            go_wp2
            go_ret
            exact ⟨rfl, b5⟩
  · rcases h3 with h | h | h
    · exact absurd h hr
    · rw [h] at HC1
      clear h hr
      go_enter Tryd.func5, Tryd.ntmps5
      go_wp2_with fail
      refine hlv.mono ?_
      rintro e w1 ⟨rfl, b1⟩
      clear hlv
      go_wp2_with fail
      refine (HC1.out _).mono ?_
      rintro e w2 ⟨rfl, b2⟩
      replace b2 := below_step b1 b2
      clear b1
      go_wp2_with fail
      refine (HC1.out _).mono ?_
      rintro e w3 ⟨rfl, b3⟩
      replace b3 := below_step b2 b3
      clear b2
      go_wp2_with fail
      refine (HC1.out _).mono ?_
      rintro e w4 ⟨rfl, b4⟩
      replace b4 := below_step b3 b4
      clear b3
      go_wp2
      go_ret
      exact ⟨rfl, b4⟩
    · rw [h] at HC1
      clear h hr
      go_enter Tryd.func5, Tryd.ntmps5
      go_wp2_with fail
      refine hlv.mono ?_
      rintro e w1 ⟨rfl, b1⟩
      clear hlv
      go_wp2_with fail
      refine (HC1.out _).mono ?_
      rintro e w2 ⟨rfl, b2⟩
      replace b2 := below_step b1 b2
      clear b1
      go_wp2_with fail
      refine (HC1.out _).mono ?_
      rintro e w3 ⟨rfl, b3⟩
      replace b3 := below_step b2 b3
      clear b2
      go_wp2
      go_ret
      exact ⟨rfl, b3⟩
end Go.Proofs.YthfoafjjenegaaaDoor
