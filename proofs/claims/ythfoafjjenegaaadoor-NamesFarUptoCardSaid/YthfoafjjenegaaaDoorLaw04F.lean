/- Law 04: NamesFar, walked (printed by gen_law04f.py). -/
import Derived.Test.YthfoafjjenegaaaDoorLaw04W
set_option linter.unusedVariables false
set_option linter.unusedSimpArgs false
namespace Go.Proofs.YthfoafjjenegaaaDoor
open Go.RowKit Go.Sort Go.Proofs.YthfoafjjenegaaaDoorW.PrintWords Go.Proofs.YthfoafjjenegaaaDoor.KCarveNA Go.Proofs.YthfoafjjenegaaaDoor.KCarveNB

set_option maxRecDepth 100000 in
set_option maxHeartbeats 16000000 in
theorem farlaw_any {w : World} (a b c d : ByteArray) (hw : NOK w) (la : a.size ≤ 1048576) (lb : b.size ≤ 1048576) (lc : c.size ≤ 1048576) (ld : d.size ≤ 1048576) : Calls Tryd.prog 7 #[.string a, .string b, .string c, .string d] w fun e w' => e = .returned (.bool true) ∧ Below w.heap.size w w' := by
  have HW := hid hw
  have hlv := live_any hw
  have ca := fun W : World => right_any (w := W) a (by omega)
  have cb := fun W : World => right_any (w := W) b (by omega)
  have cc := fun W : World => right_any (w := W) c (by omega)
  have cd := fun W : World => right_any (w := W) d (by omega)
  have cf := fun W : World => far_any (w := W) a b (by omega)
  have cg := fun W : World => far_any (w := W) c d (by omega)
  have hfs : (farV a b).size < 4294967281 := by unfold farV; rw [size_append, size_append, dot_size]; omega
  have cs := fun (W : World) (N : NOK W) => split_any (w := W) (farV a b) hfs N
  have hbad := splitV_bad (farV a b)
  have hgood := @split_far a b
  have hinj := @far_inj a b c d
  generalize farV a b = f at cf cs hbad hgood hinj
  generalize farV c d = g at cg hinj
  generalize splitV f = sv at cs hbad hgood
  obtain ⟨p, q, r⟩ := sv
  dsimp only at cs hbad
  generalize rightE a = x at ca hgood hinj
  generalize rightE b = y at cb hgood hinj
  generalize rightE c = z at cc hinj
  generalize rightE d = u at cd hinj
  have CA := hid ca
  have CB := hid cb
  have CC := hid cc
  have CD := hid cd
  have CF := hid cf
  have CG := hid cg
  have CS := hid cs
  have HI := hid hinj
  clear ca cb cc cd cf cg cs hinj hw hfs
  by_cases hx : x = 0
  · subst hx
    by_cases hy : y = 0
    · subst hy
      obtain ⟨rfl, rfl, rfl⟩ : p = a ∧ q = b ∧ r = 0 := by have h := hgood rfl rfl; simpa using h
      clear hgood hbad
      go_enter Tryd.func7, Tryd.ntmps7
      go_wp2_with fail
      refine (hlv).mono ?_
      rintro e w1 ⟨rfl, b1⟩
      clear hlv
      go_wp2_with fail
      refine (CA.out _).mono ?_
      rintro e w2 ⟨rfl, b2⟩
      replace b2 := below_step b1 b2
      clear b1
      go_wp2_with fail
      refine (CB.out _).mono ?_
      rintro e w3 ⟨rfl, b3⟩
      replace b3 := below_step b2 b3
      clear b2
      go_wp2_with fail
      refine (CF.out _).mono ?_
      rintro e w4 ⟨rfl, b4⟩
      replace b4 := below_step b3 b4
      clear b3
      go_wp2_with fail
      refine (CS.out _ (HW.out.below b4)).mono ?_
      rintro e w90 ⟨rfl, b90⟩
      replace b90 := below_step b4 b90
      clear b4
      by_cases hz : z = 0
      · subst hz
        by_cases hu : u = 0
        · subst hu
          have hij := HI.out (by trivial) (by trivial) (by trivial) (by trivial)
          by_cases hac : p = c
          · subst hac
            by_cases hbd : q = d
            · subst hbd
              obtain rfl : f = g := hij.2 ⟨rfl, rfl⟩
              clear hij HI
              go_wp2_with fail
              refine (CC.out _).mono ?_
              rintro e w201 ⟨rfl, b201⟩
              replace b201 := below_step b90 b201
              clear b90
              go_wp2_with fail
              refine (CD.out _).mono ?_
              rintro e w202 ⟨rfl, b202⟩
              replace b202 := below_step b201 b202
              clear b201
              go_wp2_with fail
              refine (CF.out _).mono ?_
              rintro e w203 ⟨rfl, b203⟩
              replace b203 := below_step b202 b203
              clear b202
              go_wp2_with fail
              refine (CG.out _).mono ?_
              rintro e w204 ⟨rfl, b204⟩
              replace b204 := below_step b203 b204
              clear b203
              go_wp2
              go_ret
              exact ⟨rfl, b204⟩
            · have hfg : f ≠ g := fun h => hbd (hij.1 h).2
              obtain ⟨m1, m2⟩ := toL_ne hbd
              obtain ⟨m3, m4⟩ := toL_ne hfg
              clear hij HI hbd hfg
              go_wp2_with fail
              refine (CC.out _).mono ?_
              rintro e w201 ⟨rfl, b201⟩
              replace b201 := below_step b90 b201
              clear b90
              go_wp2_with fail
              refine (CD.out _).mono ?_
              rintro e w202 ⟨rfl, b202⟩
              replace b202 := below_step b201 b202
              clear b201
              go_wp2_with fail
              refine (CF.out _).mono ?_
              rintro e w203 ⟨rfl, b203⟩
              replace b203 := below_step b202 b203
              clear b202
              go_wp2_with fail
              refine (CG.out _).mono ?_
              rintro e w204 ⟨rfl, b204⟩
              replace b204 := below_step b203 b204
              clear b203
              go_wp2
              go_ret
              exact ⟨rfl, b204⟩
          · have hfg : f ≠ g := fun h => hac (hij.1 h).1
            obtain ⟨m1, m2⟩ := toL_ne hac
            obtain ⟨m3, m4⟩ := toL_ne hfg
            clear hij HI hac hfg
            go_wp2_with fail
            refine (CC.out _).mono ?_
            rintro e w201 ⟨rfl, b201⟩
            replace b201 := below_step b90 b201
            clear b90
            go_wp2_with fail
            refine (CD.out _).mono ?_
            rintro e w202 ⟨rfl, b202⟩
            replace b202 := below_step b201 b202
            clear b201
            go_wp2_with fail
            refine (CF.out _).mono ?_
            rintro e w203 ⟨rfl, b203⟩
            replace b203 := below_step b202 b203
            clear b202
            go_wp2_with fail
            refine (CG.out _).mono ?_
            rintro e w204 ⟨rfl, b204⟩
            replace b204 := below_step b203 b204
            clear b203
            go_wp2
            go_ret
            exact ⟨rfl, b204⟩
        · have ue1 : (u != 0) = true := by simpa using hu
          have ue2 : (u == 0) = false := by simpa using hu
          clear hu HI
          go_wp2_with fail
          refine (CC.out _).mono ?_
          rintro e w201 ⟨rfl, b201⟩
          replace b201 := below_step b90 b201
          clear b90
          go_wp2_with fail
          refine (CD.out _).mono ?_
          rintro e w202 ⟨rfl, b202⟩
          replace b202 := below_step b201 b202
          clear b201
          go_wp2
          go_ret
          exact ⟨rfl, b202⟩
      · have ze1 : (z != 0) = true := by simpa using hz
        have ze2 : (z == 0) = false := by simpa using hz
        clear hz HI
        go_wp2_with fail
        refine (CC.out _).mono ?_
        rintro e w201 ⟨rfl, b201⟩
        replace b201 := below_step b90 b201
        clear b90
        go_wp2
        go_ret
        exact ⟨rfl, b201⟩
    · have ye1 : (y != 0) = true := by simpa using hy
      have ye2 : (y == 0) = false := by simpa using hy
      clear hy hgood HI
      rcases hbad with hr | ⟨hp, hq, hr⟩
      · subst hr
        go_enter Tryd.func7, Tryd.ntmps7
        go_wp2_with fail
        refine (hlv).mono ?_
        rintro e w1 ⟨rfl, b1⟩
        clear hlv
        go_wp2_with fail
        refine (CA.out _).mono ?_
        rintro e w2 ⟨rfl, b2⟩
        replace b2 := below_step b1 b2
        clear b1
        go_wp2_with fail
        refine (CB.out _).mono ?_
        rintro e w3 ⟨rfl, b3⟩
        replace b3 := below_step b2 b3
        clear b2
        go_wp2_with fail
        refine (CF.out _).mono ?_
        rintro e w4 ⟨rfl, b4⟩
        replace b4 := below_step b3 b4
        clear b3
        go_wp2_with fail
        refine (CS.out _ (HW.out.below b4)).mono ?_
        rintro e w90 ⟨rfl, b90⟩
        replace b90 := below_step b4 b90
        clear b4
        go_wp2
        go_ret
        exact ⟨rfl, b90⟩
      · subst hp hq
        have re1 : (r == 0) = false := by simpa using hr
        unfold E0 at *
        clear hr
        go_enter Tryd.func7, Tryd.ntmps7
        go_wp2_with fail
        refine (hlv).mono ?_
        rintro e w1 ⟨rfl, b1⟩
        clear hlv
        go_wp2_with fail
        refine (CA.out _).mono ?_
        rintro e w2 ⟨rfl, b2⟩
        replace b2 := below_step b1 b2
        clear b1
        go_wp2_with fail
        refine (CB.out _).mono ?_
        rintro e w3 ⟨rfl, b3⟩
        replace b3 := below_step b2 b3
        clear b2
        go_wp2_with fail
        refine (CF.out _).mono ?_
        rintro e w4 ⟨rfl, b4⟩
        replace b4 := below_step b3 b4
        clear b3
        go_wp2_with fail
        refine (CS.out _ (HW.out.below b4)).mono ?_
        rintro e w90 ⟨rfl, b90⟩
        replace b90 := below_step b4 b90
        clear b4
        go_wp2
        go_ret
        exact ⟨rfl, b90⟩
  · have xe1 : (x != 0) = true := by simpa using hx
    have xe2 : (x == 0) = false := by simpa using hx
    clear hx hgood HI
    rcases hbad with hr | ⟨hp, hq, hr⟩
    · subst hr
      go_enter Tryd.func7, Tryd.ntmps7
      go_wp2_with fail
      refine (hlv).mono ?_
      rintro e w1 ⟨rfl, b1⟩
      clear hlv
      go_wp2_with fail
      refine (CA.out _).mono ?_
      rintro e w2 ⟨rfl, b2⟩
      replace b2 := below_step b1 b2
      clear b1
      go_wp2_with fail
      refine (CF.out _).mono ?_
      rintro e w3 ⟨rfl, b3⟩
      replace b3 := below_step b2 b3
      clear b2
      go_wp2_with fail
      refine (CS.out _ (HW.out.below b3)).mono ?_
      rintro e w90 ⟨rfl, b90⟩
      replace b90 := below_step b3 b90
      clear b3
      go_wp2
      go_ret
      exact ⟨rfl, b90⟩
    · subst hp hq
      have re1 : (r == 0) = false := by simpa using hr
      unfold E0 at *
      clear hr
      go_enter Tryd.func7, Tryd.ntmps7
      go_wp2_with fail
      refine (hlv).mono ?_
      rintro e w1 ⟨rfl, b1⟩
      clear hlv
      go_wp2_with fail
      refine (CA.out _).mono ?_
      rintro e w2 ⟨rfl, b2⟩
      replace b2 := below_step b1 b2
      clear b1
      go_wp2_with fail
      refine (CF.out _).mono ?_
      rintro e w3 ⟨rfl, b3⟩
      replace b3 := below_step b2 b3
      clear b2
      go_wp2_with fail
      refine (CS.out _ (HW.out.below b3)).mono ?_
      rintro e w90 ⟨rfl, b90⟩
      replace b90 := below_step b3 b90
      clear b3
      go_wp2
      go_ret
      exact ⟨rfl, b90⟩
end Go.Proofs.YthfoafjjenegaaaDoor
