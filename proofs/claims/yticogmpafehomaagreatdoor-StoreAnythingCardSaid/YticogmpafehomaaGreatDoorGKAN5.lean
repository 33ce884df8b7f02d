/- PROVED: StoreAnything answers true at every input, and leaves what it was given as it was; errors.errorType as the program's text lays it. -/
import Derived.Sort.Walk0
import Derived.Test.YticogmpafehomaaGreatDoorCards
import Derived.Test.YticogmpafehomaaGreatDoorTie
import Derived.WalkKit
import Derived.ProofKit
import Derived.OpenShut
import Derived.ShutString
import Derived.ChangeOld
import Derived.Below
import Derived.SizedLaws
import Derived.Deep.DeepHandedRow
import Derived.Deep.DeepWitnessRowRef
import Derived.JoinedCond
import Derived.Test.YticogmpafehomaaGreatDoorGKAN4
import Derived.Test.YticogmpafehomaaGreatDoorGKAN1

set_option linter.unusedVariables false
set_option linter.unusedSimpArgs false
namespace Go.Proofs.YticogmpafehomaaGreatDoor
open Go.RowKit Go.Maps Go.Sort Go.Proofs.YticogmpafehomaaGreatDoorW.PrintWords Go.Proofs.YticogmpafehomaaGreatDoorW.PrintMore

theorem less24 (a b : ByteArray) : Op.bytesLess a.toList b.toList = decide (bl a < bl b) := by rw [bytesLess_eq, toL, toL]; rfl
theorem here_bytes (o : Op24) (a : ByteArray) : (Op.bytesLess o.key.toList a.toList || (o.key.toList == a.toList)) = hereO o false a := by
  rw [less24, str_toL]
  unfold hereO
  rw [Bool.eq_iff_iff]
  simp only [Bool.or_eq_true, decide_eq_true_eq, Bool.not_false, Bool.true_and]
  constructor
  · rintro (h | h)
    · exact BL.lt_asymm h
    · rw [h]; exact BL.lt_irrefl _
  · intro h
    by_cases he : o.key = a
    · exact .inr he
    · exact .inl (BL.lt_of_le_ne h (fun e => he (bl_inj e)))
/-- A row of entries of a call's own, whose bytes lie anywhere in okv. -/
def AccE (w1 wr : World) (okv : Nat → Prop) (v : Value) (acc : Ent) : Prop := ∃ raws : List RawE, raws.length = acc.length ∧ KRawE.R 122 wr w1.heap.size (fun k => w1.heap.size ≤ k) v raws ∧
  ∀ (i : Nat) (r : RawE) (x : ByteArray × List Int), raws[i]? = some r → acc[i]? = some x → r.of w1 okv x
theorem AccE.nil (w1 wr : World) (okv : Nat → Prop) : AccE w1 wr okv (.slice none 0 0) [] := ⟨[], rfl, Kd.R_nil _ _ _ _ _, fun i r x h => by simp at h⟩
theorem AccE.below {w1 wr w2 : World} {okv : Nat → Prop} {v : Value} {acc : Ent} (h : AccE w1 wr okv v acc) (hb : Below wr.heap.size wr w2) : AccE w1 w2 okv v acc := by
  obtain ⟨raws, h1, h2, h3⟩ := h
  exact ⟨raws, h1, Kd.R_below h2 hb, h3⟩
theorem snoc_of {w1 : World} {okv : Nat → Prop} {raws : List RawE} {acc : Ent} {r : RawE} {x : ByteArray × List Int} (hl : raws.length = acc.length) (h : ∀ (i : Nat) (r : RawE) (x : ByteArray × List Int), raws[i]? = some r → acc[i]? = some x → r.of w1 okv x) (hr : r.of w1 okv x) :
    ∀ (i : Nat) (r' : RawE) (x' : ByteArray × List Int), (raws ++ [r])[i]? = some r' → (acc ++ [x])[i]? = some x' → r'.of w1 okv x' := by
  intro i r' x' h1 h2
  by_cases hi : i < raws.length
  · rw [List.getElem?_append_left hi] at h1
    rw [List.getElem?_append_left (by omega)] at h2
    exact h i r' x' h1 h2
  · rw [List.getElem?_append_right (by omega)] at h1
    rw [List.getElem?_append_right (by omega)] at h2
    have hi2 : i - raws.length = 0 := by
      have := (List.getElem?_eq_some_iff.1 h1).1
      simp at this
      exact this
    rw [hi2] at h1
    rw [← hl, hi2] at h2
    simp at h1 h2
    subst h1 h2
    exact hr
theorem AccE.out {w1 wr : World} {okv : Nat → Prop} {v : Value} {acc : Ent} (h : AccE w1 wr okv v acc) (hb : Below w1.heap.size w1 wr) (hv : ∀ k, okv k → k < w1.heap.size) :
    ∃ A c, v = .slice A acc.length c ∧ RowE wr (fun k => okv k ∨ w1.heap.size ≤ k) A acc.length acc := by
  obtain ⟨raws, h1, h2, h3⟩ := h
  obtain ⟨A, c, rfl⟩ := Kd.R_slice h2
  refine ⟨A, c, by rw [h1], rfl, fun ad had => ?_, raws, h1, ?_, fun i r x hr hx => ?_⟩
  · subst had
    obtain ⟨_, inner, ho, _⟩ := h2
    rcases ho.2 with ⟨e, _⟩ | ⟨g, cap, cur, e, _⟩
    · cases e
    · injection e with e; injection e with e; exact ⟨g, e⟩
  · have := Kd.F_mono (Kd.R_F h2) (ok' := fun k => okv k ∨ w1.heap.size ≤ k) (fun k hk => .inr hk)
    rw [h1] at this
    exact this
  · exact ((h3 i r x hr hx).mono (fun k hk => .inl hk)).step (fun k hk hlt => by
      rcases hk with hk | hk
      · exact hb.block k hlt
      · omega)
/-- The cells of an entry, one behind the other. -/
theorem cells_ent {w : World} {g i : Nat} {k : ByteArray} {v : Value} (h0 : w.cell? ⟨g, i * 2, none⟩ = some (.string k)) (h1 : w.cell? ⟨g, i * 2 + 1, none⟩ = some v) : ∀ j u, ([.string k, v] : List Value)[j]? = some u → w.cell? ((⟨g, i * 2, none⟩ : Addr).add j) = some u := by
  intro j u hj
  match j, hj with
  | 0, hj => simp at hj; subst hj; exact h0
  | 1, hj => simp at hj; subst hj; exact h1
  | j + 2, hj => simp at hj
theorem KRawE_M {w : World} {base : Nat} {ok : Nat → Prop} (k : ByteArray) (A : Option Addr) (n c : Nat) : KRawE.M w base ok ⟨k, A, n, c⟩ [.string k, .slice A n c] := ⟨[.string k], [.slice A n c], rfl, rfl, rfl⟩
set_option maxRecDepth 100000 in
set_option maxHeartbeats 8000000 in
theorem with_any {w : World} {ok okb : Nat → Prop} {A B : Option Addr} {n c c2 : Nat} {xs : Ent} {o : Op24} (hx : RowE w ok A n xs) (hb : RB w okb B o.data) (hc : o.data.length ≤ c2) (hs : SortedE xs) (hn : n ≤ 65536) (ho : o.ok) :
    Calls Tryz.prog 33 #[.slice A n c, .agg (opA o B c2)] w fun e w' => ∃ A' c', e = .returned (.slice A' (withE xs o).length c') ∧ RowE w' (fun k => ok k ∨ okb k ∨ w.heap.size ≤ k) A' (withE xs o).length (withE xs o) ∧ Below w.heap.size w w' := by
  have hB0 := below_alloc (Below.refl w.heap.size w) (.cells (opA o B c2) 41)
  have hx0 := heap_alloc_new w (.cells (opA o B c2) 41)
  have hnx : n = xs.length := hx.1
  obtain ⟨okv, hokv⟩ : ∃ okv : Nat → Prop, okv = fun k => (ok k ∨ okb k) ∧ k < w.heap.size := ⟨_, rfl⟩
  have hx1 : RowE (w.alloc (.cells (opA o B c2) 41)) okv A n xs := by
    rw [hokv]
    exact (hx.bound.mono (fun k hk => ⟨.inl hk.1, hk.2⟩)).below hB0
  have hb1 : RB (w.alloc (.cells (opA o B c2) 41)) okv B o.data := by
    rw [hokv]
    exact RB_below (Kd.F_mono (Kd.F_bound hb) (fun k hk => ⟨.inr hk.1, hk.2⟩)) hB0
  have hsz : (w.alloc (.cells (opA o B c2) 41)).heap.size = w.heap.size + 1 := World.size_alloc _ _
  have hwl := withL_with o hs
  have hwn := withE_len xs o
  obtain ⟨R, hR⟩ : ∃ R, withE xs o = R := ⟨_, rfl⟩
  rw [hR] at hwl hwn ⊢
  have hnew : RawE.of ⟨o.key, B, o.data.length, c2⟩ (w.alloc (.cells (opA o B c2) 41)) okv (o.key, o.data) := ⟨rfl, rfl, hc, hb1⟩
  have hhere := fun a => here_bytes o a
  have hskip : ∀ a, skipO o a = decide ((o.kind = 1 ∨ o.kind = 2) ∧ a = o.key) := fun _ => rfl
  have hd0 : (o.kind != 1) = decide (o.kind ≠ 1) := by
    by_cases h : o.kind = 1
    · simp [h]
    · simp [h]
  rw [← hd0] at hwl
  unfold opA at hB0 hx0 hx1 hnew hsz ⊢
  clear hx hb hb1 hR hd0 ho hs hc
  generalize o.kind = kd at hB0 hx0 hx1 hnew hsz hskip hwl ⊢
  generalize o.n = on at hB0 hx0 hx1 hnew hsz ⊢
  generalize hky : o.key = key at hB0 hx0 hx1 hnew hsz hskip hhere ⊢
  generalize o.data.length = L at hB0 hx0 hx1 hnew hsz ⊢
  have hov : ∀ k, okv k → k < (w.alloc (.cells #[.int .i64 kd, .int .i64 on, .string key, .slice B L c2] 41)).heap.size := fun k hk => by rw [hokv] at hk; have := hk.2; omega
  have H0 := hid (And.intro hky (And.intro hnx (And.intro hwn (And.intro hx1 (And.intro hnew (And.intro hhere (And.intro hskip (And.intro hov (And.intro hB0 (And.intro hwl (And.intro hsz hokv)))))))))))
  clear hky hnx hwn hx1 hnew hhere hskip hov hB0 hwl hsz hokv
  go_enter Tryz.func33, Tryz.ntmps33
  go_wp2_with fail
  generalize w.alloc (.cells #[.int .i64 kd, .int .i64 on, .string key, .slice B L c2] 41) = w1 at H0 hx0 ⊢
  generalize (kd != 1) = d0 at H0 ⊢
  go_loopw [5, 6, 7] (fun v dv i wr => ∃ (j : Nat) (d : Bool) (acc : Ent), j ≤ n ∧ i = .int .i64 j ∧ dv = .bool d ∧ Hid (acc ++ withL o (xs.drop j) d = R ∧ AccE w1 wr okv v acc) ∧ Below w1.heap.size w1 wr) (fun _ _ i _ => n - (intOf i).toNat)
  case atStart => exact ⟨0, d0, [], Nat.zero_le _, rfl, rfl, hid ⟨H0.out.2.2.2.2.2.2.2.2.2.1, AccE.nil _ _ _⟩, Below.refl _ _⟩
  case round =>
    obtain ⟨W, hW⟩ : ∃ W : World, W = wr := ⟨_, rfl⟩
    subst hW
    obtain ⟨j, d, acc, hj, rfl, rfl, hacc, hB⟩ := hrel
    by_cases hlt : j < n
    · have hltI : (j : Int) < (n : Int) := by omega
      have hjx : j < xs.length := by have := H0.out.2.1; omega
      obtain ⟨g1, B1, c1, rfl, x0, x1, hlc, hb1⟩ := H0.out.2.2.2.1.at_ hjx
      have y0 := pw_cell_below hB x0
      have y1 := pw_cell_below hB x1
      have hof : RawE.of ⟨xs[j].1, B1, xs[j].2.length, c1⟩ w1 okv xs[j] := ⟨rfl, rfl, hlc, hb1⟩
      have hw := hacc.out.1
      rw [List.drop_eq_getElem_cons hjx] at hw
      simp only [withL] at hw
      generalize xs[j] = X at x0 x1 y0 y1 hof hw
      obtain ⟨xk, xv⟩ := X
      dsimp only at x0 x1 y0 y1 hof hw
      generalize xv.length = XL at x1 y1 hof
      have hh := H0.out.2.2.2.2.2.1 xk
      have hsk := H0.out.2.2.2.2.2.2.1 xk
      have hq : (xk.toList == key.toList) = decide (xk = key) := str_toL
      have z2 := pw_cell_below hB (cell_of_row _ _ 2 _ _ _ hx0)
      have HX := hid (And.intro x0 x1)
      have HA := hid (And.intro hw (And.intro hacc.out.2 (And.intro hof (And.intro hsk hB))))
      clear hw hof hsk hacc x0 x1 hlc hb1
      go_wp2_with fail
      go_cut [28] (fun b wc => b = .bool (hereO o d xk) ∧ Below W.heap.size W wc)
      case first =>
        cases d with
        | true =>
          refine wp_region_plan [] (.take 0 (.take 1 (.take 2 (.take 3 (.take 4 (.take 5 (.take 6 (.take 7 (.take 8 (.take 9 (.take 10 (.take 11 .done)))))))))))) (fun w' => Below W.heap.size W w') (by kernel_rfl) (by kernel_rfl) (fun c a d v w h => by cases d <;> exact h) (below_drew (Below.refl _ _)) ?_
          iterate 3 (apply plan_take rfl rfl; (case hy => (intro w' hS; clear hS; go_simp; try exact rfl)); go_simp)
          iterate 8 (refine plan_skip rfl rfl ?_; go_simp)
          iterate 1 (apply plan_take rfl rfl; (case hy => (intro w' hS; clear hS; go_simp; try exact rfl)); go_simp)
          refine plan_done ?_
          go_wp2_with fail
          go_meet
          case rel => exact ⟨rfl, below_drew (Below.refl _ _)⟩
        | false =>
          obtain ⟨q, hqq⟩ : ∃ q, hereO o false xk = q := ⟨_, rfl⟩
          rw [hqq] at hh
          have HQ := hid hqq
          clear hqq
          simp at z2
          refine wp_region_plan [] (.take 0 (.take 1 (.take 2 (.take 3 (.take 4 (.take 5 (.take 6 (.take 7 (.take 8 (.take 9 (.take 10 (.take 11 .done)))))))))))) (fun w' => Below W.heap.size W w') (by kernel_rfl) (by kernel_rfl) (fun c a d v w h => by cases d <;> exact h) (below_drew (Below.refl _ _)) ?_
          iterate 12 (apply plan_take rfl rfl; (case hy => (intro w' hS; have f0 := pw_cell_below hS y0; have f1 := pw_cell_below hS z2; clear hS; go_simp; try exact rfl)); go_simp)
          refine plan_done ?_
          go_wp2_with fail
          go_meet
          case rel => exact ⟨by rw [HQ.out], below_drew (Below.refl _ _)⟩
      case rest =>
        obtain ⟨rfl, hB1⟩ := hcut
        obtain ⟨W2, hW2⟩ : ∃ W2 : World, W2 = wc := ⟨_, rfl⟩
        subst hW2
        have hBw := HA.out.2.2.2.2.trans (hB1.mono HA.out.2.2.2.2.size)
        obtain ⟨raws, hrl, hR, hrof⟩ := HA.out.2.1.below hB1
        obtain ⟨A0, c0, rfl⟩ := Kd.R_slice hR
        have hal : raws.length ≤ 65537 := by have h1 := congrArg List.length HA.out.1; have h2 := H0.out.2.2.1; have h3 := H0.out.2.1; rw [List.length_append] at h1; omega
        have z2 := pw_cell_below hBw (cell_of_row _ _ 2 _ _ _ hx0)
        have z3 := pw_cell_below hBw (cell_of_row _ _ 3 _ _ _ hx0)
        simp at z2 z3
        have HR := hid (And.intro hR (And.intro hBw (And.intro hrl hal)))
        have HF := hid hrof
        clear hR hBw hrl hal hrof hh
        go_upto_if 28 with (fail)
        go_cut [5, 6] (fun v2 dv2 wc2 => ∃ (d2 : Bool) (acc2 : Ent), dv2 = .bool d2 ∧ Hid (d2 = (d || hereO o d xk) ∧ acc2 = acc ++ (if hereO o d xk = true then [(o.key, o.data)] else [])) ∧ Hid (AccE w1 wc2 okv v2 acc2) ∧ Below w1.heap.size w1 wc2)
        case first =>
          cases hq1 : hereO o d xk with
          | true =>
            have HQ := hid hq1
            clear hq1
            go_wp2_with (at_builtin; refine Kd.R_append KRawE (w0 := w1) (W := W2) w1.heap.size rfl (.tmp 29) (.tmp 35) 55 122 (.agg #[.string ⟨#[]⟩, .slice none 0 0]) 40 rfl Tryz.underlying55 info_Ent rfl (by decide) (by decide) (.slice A0 raws.length c0) raws ⟨key, B, L, c2⟩ [.string key, .slice B L c2] (fun k => w1.heap.size ≤ k) (fun _ => False) rfl rfl ?hp ?hokp ?hfresh HR.out.1 HR.out.2.1 HR.out.2.1.size ?hl9 ?_)
            case hp => exact KRawE_M _ _ _ _
            case hokp => exact fun k hk => hk.elim
            case hfresh => exact fun k hk => Nat.le_trans HR.out.2.1.size hk
            case hl9 => have h1 := HR.out.2.2.2; have h2 := HR.out.2.2.1; omega
            intro v2 w4 hR4 hB4 hg4 hat4
            clear hg4 hat4
            have hac : AccE w1 w4 okv v2 (acc ++ [(o.key, o.data)]) := ⟨raws ++ [⟨key, B, L, c2⟩], by rw [List.length_append, List.length_append, HR.out.2.2.1]; rfl, hR4, snoc_of HR.out.2.2.1 HF.out (by rw [H0.out.1]; exact H0.out.2.2.2.2.1)⟩
            have HC := hid hac
            clear hac hR4
            go_wp2_with fail
            go_meet
            case rel => exact ⟨true, _, rfl, hid ⟨by rw [HQ.out, Bool.or_true], by rw [HQ.out, if_pos rfl]⟩, HC, hB4⟩
          | false =>
            have HQ := hid hq1
            clear hq1
            go_wp2_with fail
            go_meet
            case rel => exact ⟨d, _, rfl, hid ⟨by rw [HQ.out, Bool.or_false], by rw [HQ.out, if_neg (by simp)]⟩, hid ⟨raws, by rw [List.length_append, HR.out.2.2.1]; rfl, HR.out.1, by rw [List.append_nil]; exact HF.out⟩, HR.out.2.1⟩
        case rest =>
          obtain ⟨d2, acc2, rfl, hda, hac, hB2⟩ := hcut
          obtain ⟨W3, hW3⟩ : ∃ W3 : World, W3 = wc := ⟨_, rfl⟩
          subst hW3
          have hw2 := HA.out.1
          rw [← List.append_assoc, ← hda.out.2, ← hda.out.1] at hw2
          have HW := hid hw2
          clear hw2 hda HR HF z2 z3
          go_upto_region 9 with (fail)
          go_cut [54] (fun b wc => b = .bool (!skipO o xk) ∧ Below W3.heap.size W3 wc)
          case first =>
            have u0 := pw_cell_below hB2 (cell_of_row _ _ 0 _ _ _ hx0)
            have u2 := pw_cell_below hB2 (cell_of_row _ _ 2 _ _ _ hx0)
            have v0 := pw_cell_below hB2 HX.out.1
            simp at u0 u2
            have hsk := HA.out.2.2.2.1
            obtain ⟨q, hqq⟩ : ∃ q, decide (xk = key) = q := ⟨_, rfl⟩
            rw [hqq] at hq
            by_cases hk1 : kd = 1
            · subst hk1
              have hres : skipO o xk = q := by rw [hsk, ← hqq]; simp
              have HQ := hid hres
              clear hsk hres hqq
              refine wp_region_plan [] (.take 0 (.take 1 (.take 2 (.take 3 (.take 4 (.take 5 (.take 6 (.take 7 (.take 8 (.take 9 (.take 10 (.take 11 (.take 12 (.take 13 (.take 14 (.take 15 (.take 16 (.take 17 .done)))))))))))))))))) (fun w' => Below W3.heap.size W3 w') (by kernel_rfl) (by kernel_rfl) (fun c a d v w h => by cases d <;> exact h) (below_drew (Below.refl _ _)) ?_
              iterate 4 (apply plan_take rfl rfl; (case hy => (intro w' hS; have f0 := pw_cell_below hS u0; have f1 := pw_cell_below hS u2; have f2 := pw_cell_below hS v0; clear hS; go_simp; try exact rfl)); go_simp)
              iterate 3 (refine plan_skip rfl rfl ?_; go_simp)
              iterate 11 (apply plan_take rfl rfl; (case hy => (intro w' hS; have f0 := pw_cell_below hS u0; have f1 := pw_cell_below hS u2; have f2 := pw_cell_below hS v0; clear hS; go_simp; try exact rfl)); go_simp)
              refine plan_done ?_
              go_wp2_with fail
              go_meet
              case rel => exact ⟨by rw [HQ.out], below_drew (Below.refl _ _)⟩
            · by_cases hk2 : kd = 2
              · subst hk2
                have hres : skipO o xk = q := by rw [hsk, ← hqq]; simp
                have HQ := hid hres
                clear hsk hres hqq hk1
                refine wp_region_plan [] (.take 0 (.take 1 (.take 2 (.take 3 (.take 4 (.take 5 (.take 6 (.take 7 (.take 8 (.take 9 (.take 10 (.take 11 (.take 12 (.take 13 (.take 14 (.take 15 (.take 16 (.take 17 .done)))))))))))))))))) (fun w' => Below W3.heap.size W3 w') (by kernel_rfl) (by kernel_rfl) (fun c a d v w h => by cases d <;> exact h) (below_drew (Below.refl _ _)) ?_
                iterate 18 (apply plan_take rfl rfl; (case hy => (intro w' hS; have f0 := pw_cell_below hS u0; have f1 := pw_cell_below hS u2; have f2 := pw_cell_below hS v0; clear hS; go_simp; try exact rfl)); go_simp)
                refine plan_done ?_
                go_wp2_with fail
                go_meet
                case rel => exact ⟨by rw [HQ.out], below_drew (Below.refl _ _)⟩
              · have n1 : (kd != 1) = true := by simpa using hk1
                have n2 : (kd != 2) = true := by simpa using hk2
                have hres : skipO o xk = false := by rw [hsk]; simp [hk1, hk2]
                have HQ := hid hres
                clear hsk hres hqq hk1 hk2
                refine wp_region_plan [] (.take 0 (.take 1 (.take 2 (.take 3 (.take 4 (.take 5 (.take 6 (.take 7 (.take 8 (.take 9 (.take 10 (.take 11 (.take 12 (.take 13 (.take 14 (.take 15 (.take 16 (.take 17 .done)))))))))))))))))) (fun w' => Below W3.heap.size W3 w') (by kernel_rfl) (by kernel_rfl) (fun c a d v w h => by cases d <;> exact h) (below_drew (Below.refl _ _)) ?_
                iterate 9 (apply plan_take rfl rfl; (case hy => (intro w' hS; have f0 := pw_cell_below hS u0; have f1 := pw_cell_below hS u2; have f2 := pw_cell_below hS v0; clear hS; go_simp; try exact rfl)); go_simp)
                iterate 8 (refine plan_skip rfl rfl ?_; go_simp)
                iterate 1 (apply plan_take rfl rfl; (case hy => (intro w' hS; clear hS; go_simp; try exact rfl)); go_simp)
                refine plan_done ?_
                go_wp2_with fail
                go_meet
                case rel => exact ⟨by rw [HQ.out]; rfl, below_drew (Below.refl _ _)⟩
          case rest =>
            obtain ⟨rfl, hB3⟩ := hcut
            obtain ⟨W4, hW4⟩ : ∃ W4 : World, W4 = wc := ⟨_, rfl⟩
            subst hW4
            have hBw := hB2.trans (hB3.mono hB2.size)
            obtain ⟨raws, hrl, hR, hrof⟩ := hac.out.below hB3
            obtain ⟨A0, c0, rfl⟩ := Kd.R_slice hR
            have hal : raws.length ≤ 65537 := by have h1 := congrArg List.length HW.out; have h2 := H0.out.2.2.1; have h3 := H0.out.2.1; rw [List.length_append] at h1; omega
            have hcs := cells_ent (pw_cell_below hBw HX.out.1) (pw_cell_below hBw HX.out.2)
            have HR := hid (And.intro hR (And.intro hBw (And.intro hrl hal)))
            have HF := hid hrof
            clear hR hBw hrl hal hrof hac hB2 hB3 hq y0 y1
            cases hq1 : skipO o xk with
            | true =>
              have hw3 := HW.out
              rw [hq1] at hw3
              simp only [if_true, List.nil_append] at hw3
              have HV := hid hw3
              clear hw3 hq1 hcs
              go_wp2_with fail
              go_roundw
              case rel => exact ⟨j + 1, d2, acc2, by omega, by go_num, rfl, hid ⟨HV.out, raws, HR.out.2.2.1, HR.out.1, HF.out⟩, HR.out.2.1⟩
              case measure => simp [intOf]; omega
            | false =>
              have hw3 := HW.out
              rw [hq1] at hw3
              simp only [Bool.false_eq_true, if_false] at hw3
              rw [← List.append_assoc] at hw3
              have HV := hid hw3
              clear hw3 hq1
              go_wp2_with (first | (refine wpList_load_addr rfl 122 (.tmp 58) rfl ⟨g1, j * 2, none⟩ rfl [.string xk, .slice B1 XL c1] _ hcs Tryz.underlying122 rfl (by kernel_rfl) ?_) | (at_builtin; refine Kd.R_append KRawE (w0 := w1) (W := W4) w1.heap.size rfl (.tmp 55) (.tmp 60) 55 122 (.agg #[.string ⟨#[]⟩, .slice none 0 0]) 40 rfl Tryz.underlying55 info_Ent rfl (by decide) (by decide) (.slice A0 raws.length c0) raws ⟨xk, B1, XL, c1⟩ [.string xk, .slice B1 XL c1] (fun k => w1.heap.size ≤ k) (fun _ => False) rfl rfl ?hp ?hokp ?hfresh HR.out.1 HR.out.2.1 HR.out.2.1.size ?hl9 ?_))
              case hp => exact KRawE_M _ _ _ _
              case hokp => exact fun k hk => hk.elim
              case hfresh => exact fun k hk => Nat.le_trans HR.out.2.1.size hk
              case hl9 => have h1 := HR.out.2.2.2; have h2 := HR.out.2.2.1; omega
              intro v2 w4 hR4 hB4 hg4 hat4
              clear hg4 hat4
              clear hcs
              have hac : AccE w1 w4 okv v2 (acc2 ++ [(xk, xv)]) := ⟨raws ++ [⟨xk, B1, XL, c1⟩], by rw [List.length_append, List.length_append, HR.out.2.2.1]; rfl, hR4, snoc_of HR.out.2.2.1 HF.out HA.out.2.2.1⟩
              have HC := hid hac
              clear hac hR4
              go_wp2_with fail
              go_roundw
              case rel => exact ⟨j + 1, d2, _, by omega, by go_num, rfl, hid ⟨HV.out, HC.out⟩, hB4⟩
              case measure => simp [intOf]; omega
    · obtain rfl : j = n := by omega
      have hw := hacc.out.1
      rw [List.drop_of_length_le (by have := H0.out.2.1; omega)] at hw
      simp only [withL] at hw
      cases d with
      | true =>
        simp only [if_true, List.append_nil] at hw
        obtain ⟨A', c', rfl, hrow⟩ := hacc.out.2.out hB H0.out.2.2.2.2.2.2.2.1
        subst hw
        have HF := hid (And.intro hrow hB)
        clear hrow hB hacc
        go_wp2
        go_ret
        exact ⟨A', c', rfl, HF.out.1.mono (fun k hk => hk.elim (fun e => by have := H0.out.2.2.2.2.2.2.2.2.2.2.2; rw [this] at e; exact e.1.elim .inl (fun e => .inr (.inl e))) (fun e => .inr (.inr (by have := H0.out.2.2.2.2.2.2.2.2.2.2.1; omega)))), below_step H0.out.2.2.2.2.2.2.2.2.1 HF.out.2⟩
      | false =>
        simp only [Bool.false_eq_true, if_false] at hw
        obtain ⟨raws, hrl, hR, hrof⟩ := hacc.out.2
        obtain ⟨A0, c0, rfl⟩ := Kd.R_slice hR
        have hal : raws.length ≤ 65537 := by have h1 := congrArg List.length hw; have h2 := H0.out.2.2.1; have h3 := H0.out.2.1; rw [List.length_append] at h1; omega
        have z2 := pw_cell_below hB (cell_of_row _ _ 2 _ _ _ hx0)
        have z3 := pw_cell_below hB (cell_of_row _ _ 3 _ _ _ hx0)
        simp at z2 z3
        have HR := hid (And.intro hR (And.intro hB (And.intro hrl hal)))
        have HF := hid (And.intro hrof hw)
        clear hR hB hrl hal hrof hacc hw
        go_wp2_with (at_builtin; refine Kd.R_append KRawE (w0 := w1) (W := W) w1.heap.size rfl (.tmp 64) (.tmp 70) 55 122 (.agg #[.string ⟨#[]⟩, .slice none 0 0]) 40 rfl Tryz.underlying55 info_Ent rfl (by decide) (by decide) (.slice A0 raws.length c0) raws ⟨key, B, L, c2⟩ [.string key, .slice B L c2] (fun k => w1.heap.size ≤ k) (fun _ => False) rfl rfl ?hp ?hokp ?hfresh HR.out.1 HR.out.2.1 HR.out.2.1.size ?hl9 ?_)
        case hp => exact KRawE_M _ _ _ _
        case hokp => exact fun k hk => hk.elim
        case hfresh => exact fun k hk => Nat.le_trans HR.out.2.1.size hk
        case hl9 => have h1 := HR.out.2.2.2; have h2 := HR.out.2.2.1; omega
        intro v2 w4 hR4 hB4 hg4 hat4
        clear hg4 hat4
        have hac : AccE w1 w4 okv v2 (acc ++ [(o.key, o.data)]) := ⟨raws ++ [⟨key, B, L, c2⟩], by rw [List.length_append, List.length_append, HR.out.2.2.1]; rfl, hR4, snoc_of HR.out.2.2.1 HF.out.1 (by rw [H0.out.1]; exact H0.out.2.2.2.2.1)⟩
        rw [HF.out.2] at hac
        obtain ⟨A', c', rfl, hrow⟩ := hac.out hB4 H0.out.2.2.2.2.2.2.2.1
        have HG := hid (And.intro hrow hB4)
        clear hac hR4 hrow hB4
        go_wp2
        go_ret
        exact ⟨A', c', rfl, HG.out.1.mono (fun k hk => hk.elim (fun e => by have := H0.out.2.2.2.2.2.2.2.2.2.2.2; rw [this] at e; exact e.1.elim .inl (fun e => .inr (.inl e))) (fun e => .inr (.inr (by have := H0.out.2.2.2.2.2.2.2.2.2.2.1; omega)))), below_step H0.out.2.2.2.2.2.2.2.2.1 HG.out.2⟩
end Go.Proofs.YticogmpafehomaaGreatDoor

set_option linter.unusedVariables false
set_option linter.unusedSimpArgs false
namespace Go.Proofs.YticogmpafehomaaGreatDoor
open Go.RowKit Go.Maps Go.Proofs.YticogmpafehomaaGreatDoorW.PrintWords Go.Proofs.YticogmpafehomaaGreatDoorW.PrintMore

end Go.Proofs.YticogmpafehomaaGreatDoor

set_option linter.unusedVariables false
set_option linter.unusedSimpArgs false
namespace Go.Proofs.YticogmpafehomaaGreatDoor
open Go.RowKit Go.Maps Go.Proofs.YticogmpafehomaaGreatDoorW.PrintWords Go.Proofs.YticogmpafehomaaGreatDoorW.PrintMore

/-- A row of entries: where it lies, what it says. -/
structure Rw where
  A : Option Addr
  n : Nat
  E : Ent
def Sys (w wr : World) (pd ps : Nat) (S : SM) (rs : List Rw) : Prop := ∃ okd okS okv : Nat → Prop, OwnSys w wr pd ps S okd okS ∧ (∀ r ∈ rs, RowE wr okv r.A r.n r.E) ∧ ∀ k, okv k → k < wr.heap.size ∧ ¬ okd k ∧ ¬ okS k
theorem Sys.start {w wr : World} {pd ps : Nat} {S : SM} {okd okS : Nat → Prop} (h : OwnSys w wr pd ps S okd okS) : Sys w wr pd ps S [⟨none, 0, []⟩] :=
  ⟨okd, okS, fun _ => False, h, fun r hr => by rw [List.mem_singleton.1 hr]; exact RowE.nil _ _, fun k hk => hk.elim⟩
theorem Sys.sub {w wr : World} {pd ps : Nat} {S : SM} {rs rs' : List Rw} (h : Sys w wr pd ps S rs) (hs : ∀ r ∈ rs', r ∈ rs) : Sys w wr pd ps S rs' := by
  obtain ⟨a, b, c, h1, h2, h3⟩ := h
  exact ⟨a, b, c, h1, fun r hr => h2 r (hs r hr), h3⟩
theorem Sys.below {w wr w1 : World} {pd ps : Nat} {S : SM} {rs : List Rw} (h : Sys w wr pd ps S rs) (hb : Below wr.heap.size wr w1) : Sys w w1 pd ps S rs := by
  obtain ⟨a, b, c, h1, h2, h3⟩ := h
  exact ⟨a, b, c, h1.below hb, fun r hr => (h2 r hr).below hb, fun k hk => ⟨Nat.lt_of_lt_of_le (h3 k hk).1 hb.size, (h3 k hk).2⟩⟩
theorem Sys.bel {w wr : World} {pd ps : Nat} {S : SM} {rs : List Rw} (h : Sys w wr pd ps S rs) : Below w.heap.size w wr := by
  obtain ⟨a, b, c, h1, _⟩ := h
  exact h1.bel
theorem sys_out {w wr w1 : World} {pd ps : Nat} {S S' : SM} {rs : List Rw} {okd okS okv : Nat → Prop} (h1 : OwnSys w wr pd ps S okd okS) (h2 : ∀ r ∈ rs, RowE wr okv r.A r.n r.E) (h3 : ∀ k, okv k → k < wr.heap.size ∧ ¬ okd k ∧ ¬ okS k)
    (ho : SysOut wr w1 okd okS ps pd S') (hc : Chg (fun k => okd k ∨ okS k) wr w1) : Sys w w1 pd ps S' rs := by
  obtain ⟨a, b, g1, g2, g3, g4, g5⟩ := ho
  have hs := hc.size
  have hs0 := h1.bel.size
  refine ⟨fun k => a k ∧ k < w1.heap.size, fun k => b k ∧ k < w1.heap.size, okv, ⟨g1.bound, g2.bound, fun k q1 q2 => g3 k q1.1 q2.1,
    fun k hk => ⟨(g4 k hk.1).elim (fun e => (h1.gd k e).1) (fun e => Nat.le_trans hs0 e), hk.2⟩, fun k hk => ⟨(g5 k hk.1).elim (fun e => (h1.gs k e).1) (fun e => Nat.le_trans hs0 e), hk.2⟩,
    h1.bel.trans (hc.below_ (B := w.heap.size) hs0 (fun k hk => hk.elim (fun e => (h1.gd k e).1) (fun e => (h1.gs k e).1)))⟩, fun r hr => (h2 r hr).step (fun k hk hlt => hc.block k hlt (fun e => e.elim (h3 k hk).2.1 (h3 k hk).2.2)), fun k hk => ?_⟩
  have q := h3 k hk
  exact ⟨Nat.lt_of_lt_of_le q.1 hs, fun e => (g4 k e.1).elim q.2.1 (fun e2 => by omega), fun e => (g5 k e.1).elim q.2.2 (fun e2 => by omega)⟩
/-- A change. -/
theorem Sys.change {w wr : World} {pd ps : Nat} {S : SM} {rs : List Rw} {l : List SR} (h : Sys w wr pd ps S rs) (hg : Good S l) (hm : Room S.D) {o : Op24} (ho : o.ok) {okb : Nat → Prop} {B : Option Addr} {c : Nat} (hF : RB w okb B o.data) (hc : o.data.length ≤ c) :
    Calls Tryz.prog 19 #[.pointer (some ⟨ps, 0, none⟩), .agg (opA o B c)] wr fun e w' => e = .returned (.int .i64 (chF S o).1) ∧ Sys w w' pd ps (chF S o).2 rs := by
  obtain ⟨a, b, v, h1, h2, h3⟩ := h
  refine (change_any h1.d h1.s hg.wf hm hg.alive (fun j hj => (h1.gd j hj).2) (fun j hj => (h1.gs j hj).2) h1.ap (RB_below hF h1.bel) hc ho).mono ?_
  rintro e w' ⟨rfl, hS, hC⟩
  exact ⟨rfl, sys_out h1 h2 h3 hS hC⟩
/-- A row with a change, beside the others. -/
theorem Sys.with_ {w wr : World} {pd ps : Nat} {S : SM} {rs : List Rw} (h : Sys w wr pd ps S rs) {A : Option Addr} {n c : Nat} {E : Ent} (hr : ⟨A, n, E⟩ ∈ rs) (hs : SortedE E) (hn : n ≤ 65536) {o : Op24} (ho : o.ok) {B : Option Addr} {c2 : Nat} (hF : RB w (fun k => k < w.heap.size) B o.data) (hc : o.data.length ≤ c2) :
    Calls Tryz.prog 33 #[.slice A n c, .agg (opA o B c2)] wr fun e w' => ∃ A' c', e = .returned (.slice A' (withE E o).length c') ∧ Sys w w' pd ps S (⟨A', (withE E o).length, withE E o⟩ :: rs) ∧ Below wr.heap.size wr w' := by
  obtain ⟨a, b, v, h1, h2, h3⟩ := h
  refine (with_any (c := c) (h2 _ hr) (RB_below hF h1.bel) hc hs hn ho).mono ?_
  rintro e w' ⟨A', c', rfl, hR, hB⟩
  have hs0 := h1.bel.size
  refine ⟨A', c', rfl, ⟨a, b, fun k => (v k ∨ k < w.heap.size ∨ wr.heap.size ≤ k) ∧ k < w'.heap.size, h1.below hB, fun r hr => ?_, fun k hk => ⟨hk.2, fun e => ?_, fun e => ?_⟩⟩, hB⟩
  · rcases List.mem_cons.1 hr with e | e
    · subst e; exact hR.bound
    · exact (((h2 r e).below hB).bound).mono (fun k hk => ⟨.inl hk.1, hk.2⟩)
  · have q := h1.gd k e
    rcases hk.1 with x | x | x
    · exact (h3 k x).2.1 e
    · omega
    · omega
  · have q := h1.gs k e
    rcases hk.1 with x | x | x
    · exact (h3 k x).2.2 e
    · omega
    · omega
/-- State, beside the others. -/
theorem Sys.state {w wr : World} {pd ps : Nat} {S : SM} {rs : List Rw} (h : Sys w wr pd ps S rs) (hwf : S.wf) (hl : S.E.length ≤ 65536) :
    Calls Tryz.prog 26 #[.pointer (some ⟨ps, 0, none⟩)] wr fun e w' => ∃ A' c', e = .returned (.slice A' S.E.length c') ∧ Sys w w' pd ps S (⟨A', S.E.length, S.E⟩ :: rs) ∧ Below wr.heap.size wr w' := by
  obtain ⟨a, b, v, h1, h2, h3⟩ := h
  refine (sstate_any h1.s hwf hl).mono ?_
  rintro e w' ⟨A', c', rfl, hR, hB⟩
  have hs0 := h1.bel.size
  refine ⟨A', c', rfl, ⟨a, b, fun k => (v k ∨ wr.heap.size ≤ k) ∧ k < w'.heap.size, h1.below hB, fun r hr => ?_, fun k hk => ⟨hk.2, fun e => ?_, fun e => ?_⟩⟩, hB⟩
  · rcases List.mem_cons.1 hr with e | e
    · subst e; exact (ent_row hR).bound.mono (fun k hk => ⟨.inr hk.1, hk.2⟩)
    · exact (((h2 r e).below hB).bound).mono (fun k hk => ⟨.inl hk.1, hk.2⟩)
  · have q := h1.gd k e
    rcases hk.1 with x | x
    · exact (h3 k x).2.1 e
    · omega
  · have q := h1.gs k e
    rcases hk.1 with x | x
    · exact (h3 k x).2.2 e
    · omega
/-- Open, of a store as it should be: the new one, on the same disk. -/
theorem Sys.open_ {w wr : World} {pd ps : Nat} {S : SM} {rs : List Rw} {l : List SR} (h : Sys w wr pd ps S rs) {S' : SM} (hD : S'.D = S.D) (hg : Good S' l) :
    Calls Tryz.prog 24 #[.pointer (some ⟨pd, 0, none⟩)] wr fun e w' => ∃ p2, e = .returned (.tuple #[.pointer (some ⟨p2, 0, none⟩), .int .i64 0]) ∧ Sys w w' pd ps S rs ∧ Sys w w' pd p2 S' rs ∧ Below wr.heap.size wr w' := by
  obtain ⟨a, b, v, h1, h2, h3⟩ := h
  refine (sopen_good (S := S') (hD ▸ h1.d) hg).mono ?_
  rintro e w' ⟨p2, rfl, hP, hB⟩
  have hs0 := h1.bel.size
  refine ⟨p2, rfl, ⟨a, b, v, h1.below hB, fun r hr => (h2 r hr).below hB, fun k hk => ⟨Nat.lt_of_lt_of_le (h3 k hk).1 hB.size, (h3 k hk).2⟩⟩, ⟨a, fun k => wr.heap.size ≤ k ∧ k < w'.heap.size, v, ⟨?_, hP.bound, fun k q1 q2 => ?_, fun k hk => ?_, fun k hk => ⟨Nat.le_trans hs0 hk.1, hk.2⟩, (h1.below hB).bel⟩, fun r hr => (h2 r hr).below hB, fun k hk => ⟨Nat.lt_of_lt_of_le (h3 k hk).1 hB.size, (h3 k hk).2.1, fun e => ?_⟩⟩, hB⟩
  · rw [hD]; exact (h1.below hB).d
  · have := (h1.gd k q1).2; omega
  · exact (h1.below hB).gd k hk
  · have := (h3 k hk).1; omega
theorem Sys.same {w wr : World} {pd ps : Nat} {S : SM} {rs : List Rw} (h : Sys w wr pd ps S rs) {A B : Option Addr} {n m cA cB : Nat} {E F : Ent} (hA : ⟨A, n, E⟩ ∈ rs) (hB : ⟨B, m, F⟩ ∈ rs) (hn : n ≤ 65536) (hm : m ≤ 65536) (hE : ∀ x ∈ E, Bytes x.2) (hF : ∀ x ∈ F, Bytes x.2) :
    Calls Tryz.prog 25 #[.slice A n cA, .slice B m cB] wr fun e w' => e = .returned (.bool (decide (E = F))) ∧ Sys w w' pd ps S rs ∧ Below wr.heap.size wr w' := by
  obtain ⟨a, b, v, h1, h2, h3⟩ := h
  refine (same_any (cA := cA) (cB := cB) (h2 _ hA) (h2 _ hB) hn hm hE hF).mono ?_
  rintro e w' ⟨rfl, hB⟩
  exact ⟨rfl, Sys.below ⟨a, b, v, h1, h2, h3⟩ hB, hB⟩
end Go.Proofs.YticogmpafehomaaGreatDoor

set_option linter.unusedVariables false
set_option linter.unusedSimpArgs false
namespace Go.Proofs.YticogmpafehomaaGreatDoor
open Go.RowKit Go.Proofs.YticogmpafehomaaGreatDoorW.PrintWords

end Go.Proofs.YticogmpafehomaaGreatDoor

set_option linter.unusedVariables false
set_option linter.unusedSimpArgs false
namespace Go.Proofs.YticogmpafehomaaGreatDoor
open Go.RowKit Go.Proofs.YticogmpafehomaaGreatDoorW.PrintWords

/-- The document's disk: p the struct's block, g the bytes', wv the recorded writes. -/
structure RDb (w : World) (ok : Nat → Prop) (p : Nat) (D : DM) (g cap : Nat) (wv : Value) : Prop where
  okp : ok p
  okg : ok g
  blk : w.heap[p]? = some (.cells #[.slice (some ⟨g, 0, none⟩) D.b.length cap, .bool D.gone, .int .i64 D.left, wv] 80 (0, 0))
  row : w.ownsRow 0 5 1 (.slice (some ⟨g, 0, none⟩) D.b.length cap) D.b.length (nums .u8 D.b)
  ws : KW.R 257 w 0 (fun k => ok k ∧ k ≠ g) wv D.ws
namespace RDb
variable {w w1 : World} {ok ok' : Nat → Prop} {p : Nat} {D : DM} {g cap : Nat} {wv : Value}
end RDb
end Go.Proofs.YticogmpafehomaaGreatDoor

set_option linter.unusedVariables false
set_option linter.unusedSimpArgs false
namespace Go.Proofs.YticogmpafehomaaGreatDoor
open Go.RowKit Go.Proofs.YticogmpafehomaaGreatDoorW.PrintWords

end Go.Proofs.YticogmpafehomaaGreatDoor

set_option linter.unusedVariables false
set_option linter.unusedSimpArgs false
namespace Go.Proofs.YticogmpafehomaaGreatDoor
open Go.RowKit Go.Proofs.YticogmpafehomaaGreatDoorW.PrintWords

/-! ### Load -/
def DM.load (b : List Int) : DM := ⟨b, -1, false, []⟩
theorem load_n {b : List Int} {n : Nat} (h : b.length = 64 * n) : (DM.load b).n = n := by simp only [DM.load, DM.n, h]; omega
theorem load_wf {b : List Int} {n : Nat} (h : b.length = 64 * n) (h1 : 16 ≤ n) (h2 : n ≤ 4096) (hB : Bytes b) : (DM.load b).wf :=
  ⟨by rw [load_n h]; exact h, by rw [load_n h]; exact h1, by rw [load_n h]; exact h2, by simp [DM.load], by simp [DM.load], hB, fun x hx => by simp [DM.load] at hx⟩
def loadS (b : List Int) (n k : Nat) : List Int := b.take (64 * k) ++ List.replicate (64 * n - 64 * k) 0
theorem loadS_len {b : List Int} {n k : Nat} (h : b.length = 64 * n) (hk : k ≤ n) : (loadS b n k).length = 64 * n := by
  simp only [loadS, List.length_append, List.length_take, List.length_replicate]; omega
theorem loadS_step {b : List Int} {n k : Nat} (h : b.length = 64 * n) (hk : k < n) : splice (loadS b n k) (k * 64) ((b.drop (64 * k)).take 64) = loadS b n (k + 1) := by
  have h1 : (b.take (64 * k)).length = 64 * k := by rw [List.length_take]; omega
  have h2 : ((b.drop (64 * k)).take 64).length = 64 := by rw [List.length_take, List.length_drop]; omega
  have e1 : (b.take (64 * k) ++ List.replicate (64 * n - 64 * k) 0).take (64 * k) = b.take (64 * k) := by rw [List.take_append_of_le_length (by omega), List.take_of_length_le (by omega)]
  have e2 : (b.take (64 * k) ++ List.replicate (64 * n - 64 * k) (0 : Int)).drop (64 * k + 64) = List.replicate (64 * n - 64 * (k + 1)) 0 := by
    rw [List.drop_append, List.drop_eq_nil_of_le (by omega), h1, List.nil_append, List.drop_replicate]
    congr 1
    omega
  unfold splice loadS
  rw [h2, Nat.mul_comm k 64, e1, e2, ← List.append_assoc, ← List.take_add, show 64 * (k + 1) = 64 * k + 64 by omega]
theorem addr_addL (a : Addr) (i j : Nat) : (a.add i).add j = a.add (i + j) := by
  unfold Addr.add
  by_cases hi : i = 0 <;> by_cases hj : j = 0 <;> simp [hi, hj, Nat.add_assoc]
/-- A part of bytes that are read. -/
theorem C_part {w : World} {k : IntKind} {a : Addr} {n : Nat} {xs : List Int} (h : (Kd.int k).C w (some a) n xs) (off m : Nat) : ∀ j v, (nums k ((xs.drop off).take m))[j]? = some v → w.cell? ((a.add off).add j) = some v := by
  intro j v hj
  rw [addr_addL]
  apply cells_of_C h (off + j)
  simp only [nums, List.map_take, List.map_drop, List.getElem?_take, List.getElem?_drop] at hj ⊢
  split at hj
  · exact hj
  · cases hj
set_option maxRecDepth 100000 in
set_option maxHeartbeats 1000000 in
theorem dload_ok {w : World} {a : Addr} {c : Nat} {b : List Int} (n : Nat) (hC : KB.C w (some a) b.length b) (hn : b.length = 64 * n) (h1 : 16 ≤ n) (h2 : n ≤ 4096) (hB : Bytes b) (hc : b.length ≤ c) (hc2 : c ≤ 9223372036854775807) :
  Calls Tryz.prog 37 #[.slice (some a) b.length c] w fun e w' => ∃ q, e = .returned (.tuple #[.pointer (some ⟨q, 0, none⟩), .int .i64 0]) ∧ PDisk w' (fun k => w.heap.size ≤ k) q (DM.load b) ∧ Below w.heap.size w w' := by
  have hq1 : ((b.length : Int)).tmod 64 = 0 := by rw [Int.tmod_eq_emod_of_nonneg (by omega)]; omega
  have hq2 : ((b.length : Int)).tdiv 64 = (n : Int) := by rw [Int.tdiv_eq_ediv_of_nonneg (by omega)]; omega
  have HN := hid hn
  go_enter Tryz.func37, Tryz.ntmps37
  go_wp2_with fail
  refine (new_ok n h1 h2).mono ?_
  rintro e w1 ⟨rfl, ⟨_, g, cap, wv, hb1⟩, hB1⟩
  have hnew : DM.new n = ⟨loadS b n 0, -1, false, []⟩ := by simp [DM.new, loadS]
  rw [hnew] at hb1
  have hLn : ∀ k, k ≤ n → (⟨loadS b n k, -1, false, []⟩ : DM).n = n := fun k hk => by simp only [DM.n, loadS_len HN.out hk]; omega
  have HLn := hid hLn
  have c0 := hb1.cell0
  rw [hLn 0 (by omega)] at c0
  have hqs : w.heap.size ≤ w.heap.size + 1 := by omega
  generalize w.heap.size + 1 = q at hb1 c0 hqs ⊢
  clear hnew hLn hq1 hq2
  go_wp2_with fail
  go_loopw [6, 26] (fun _ j wr => ∃ k : Nat, k ≤ n ∧ j = .int .i64 k ∧ PDb wr (fun k => w.heap.size ≤ k) q ⟨loadS b n k, -1, false, []⟩ g cap wv ∧ Below w.heap.size w wr) (fun _ j _ => n - (intOf j).toNat)
  case atStart => exact ⟨0, Nat.zero_le _, rfl, hb1, hB1⟩
  case round =>
    obtain ⟨k, hk, rfl, hbk, hBk⟩ := hrel
    clear c0
    by_cases hlt : k < n
    · have c0 := hbk.cell0
      rw [HLn.out k hk] at c0
      have hCk := Kd.C_below hC hBk
      have hw1 : IntKind.i64.wrap ((k : Int) * 64) = (k : Int) * 64 := IntWalk.i64_in _ (by omega)
      have hw2 : IntKind.i64.wrap ((k : Int) + 1) = (k : Int) + 1 := IntWalk.i64_in _ (by omega)
      have hw3 : IntKind.i64.wrap (((k : Int) + 1) * 64) = ((k : Int) + 1) * 64 := IntWalk.i64_in _ (by omega)
      have hw4 : 0 ≤ (k : Int) * 64 ∧ (k : Int) * 64 ≤ ((k : Int) + 1) * 64 ∧ ((k : Int) + 1) * 64 ≤ (c : Int) := by omega
      have hw7 : 0 ≤ ((k : Int) + 1) * 64 := by omega
      have hw8 : (k : Int) ≤ (k : Int) + 1 := by omega
      have hw10 : (k + 1) * 64 - k * 64 = 64 := by omega
      have hw9 : ¬ c = k * 64 := by omega
      have hw5 : ((k : Int) * 64).toNat = k * 64 := by omega
      have hw6 : (((k : Int) + 1) * 64).toNat = (k + 1) * 64 := by omega
      go_wp2_with fail
      refine wp_region_plan [14, 15] (.take 0 (.take 1 (.take 2 (.take 3 (.take 4 (.take 5 (.take 6 (.take 7 (.take 8 (.take 9 (.take 10 (.take 11 (.take 12 (.take 13 (.tail 14 (.tail 15 .done)))))))))))))))) (fun w' => w'.cell? ⟨q, 0, none⟩ = some (.slice (some ⟨g, 0, none⟩) n cap) ∧ Kd.C KB w' (some a) b.length b) (by kernel_rfl) (by kernel_rfl) (fun c a d v w h => by cases d <;> exact h) ⟨c0, hCk⟩ ?_
      iterate 12 (apply plan_take rfl rfl; (case hy => (intro w' hS; obtain ⟨s0, _⟩ := hS; go_simp; try exact rfl)); go_simp)
      apply plan_take rfl rfl
      case hy => 
        intro w' hS
        go_simp
        rw [run_arrayAt _ _ _ _ _ _ _ Tryz.underlying135 (Nat.le_refl 64)]
        exact rfl
      go_simp
      apply plan_take rfl rfl
      case hy => intro w' hS; exact exec_load_row 135 (.tmp 41) rfl (a.add (k * 64)) rfl (nums .u8 ((b.drop (k * 64)).take 64)) _ (C_part hS.2 _ _) Tryz.underlying135 rfl (by rw [nums_length, List.length_take, List.length_drop, show min 64 (b.length - k * 64) = 64 by omega]; exact info_block)
      go_simp
      have hrow := hbk.row
      rw [HLn.out k hk] at hrow
      have hxl : ((b.drop (k * 64)).take 64).length = 64 := by rw [List.length_take, List.length_drop]; omega
      have hstep := loadS_step HN.out hlt
      rw [Nat.mul_comm 64 k] at hstep
      generalize (b.drop (k * 64)).take 64 = xs at hxl hstep ⊢
      refine plan_tail rfl (fun K hK => ?_)
      go_simp
      refine hK _ _ ?_
      clear hK K
      refine plan_tail_on rfl rfl (fun K hK => ?_)
      refine wp_store_mid 135 (.tmp 43) (.tmp 42) rfl g (k * 64) (nums .u8 xs).toArray rfl rfl ?_ ?_ (nums_one _ _) ?_
      · exact own_there hrow _ (by simp [nums_length, hxl]; omega)
      · simp only [List.size_toArray, nums_length, hxl]; exact info_block
      go_simp
      refine hK _ _ (plan_done ?_)
      clear hK K c0 hrow
      have hbd : PDb wr.drew (fun k => w.heap.size ≤ k) q ⟨loadS b n k, -1, false, []⟩ g cap wv := hbk.step (fun _ _ _ => rfl)
      have hbn := hbd.setBytes (k * 64) xs (by rw [HLn.out k hk, hxl]; omega)
      have hBn : Below w.heap.size w (wr.drew.setCells g (k * 64) (nums .u8 xs)) :=
        ((Chg.of_below (below_drew hBk) none_).setCells (.inr hbk.okg) (k * 64) (nums .u8 xs)).below0
      simp only [] at hbn
      rw [hstep] at hbn
      generalize wr.drew.setCells g (k * 64) (nums .u8 xs) = W1 at hbn hBn ⊢
      clear hw1 hw2 hw3 hw4 hw5 hw6 hw7 hw8 hw9 hw10 hCk hbd hxl hstep
      go_wp2
      go_roundw
      case rel => exact ⟨k + 1, by omega, by go_num, hbn, hBn⟩
      case measure => simp [intOf]; omega
    · obtain rfl : k = n := by omega
      have hS : loadS b k k = b := by unfold loadS; rw [List.take_of_length_le (by omega)]; simp
      rw [hS] at hbk
      go_wp2
      go_ret2
      exact ⟨q, rfl, ⟨load_wf HN.out h1 h2 hB, g, cap, wv, hbk⟩, hBk⟩
end Go.Proofs.YticogmpafehomaaGreatDoor

set_option linter.unusedVariables false
set_option linter.unusedSimpArgs false
namespace Go.Proofs.YticogmpafehomaaGreatDoor
open Go.RowKit Go.Proofs.YticogmpafehomaaGreatDoorW.PrintWords

end Go.Proofs.YticogmpafehomaaGreatDoor

set_option linter.unusedVariables false
set_option linter.unusedSimpArgs false
namespace Go.Proofs.YticogmpafehomaaGreatDoor
open Go.RowKit Go.Proofs.YticogmpafehomaaGreatDoorW.PrintWords

/-- What writes lay onto bytes. -/
def lay (b : List Int) (l : List (Int × List Int)) : List Int := l.foldl (fun b x => splice b (x.1.toNat * 64) x.2) b
end Go.Proofs.YticogmpafehomaaGreatDoor

set_option linter.unusedVariables false
set_option linter.unusedSimpArgs false
namespace Go.Proofs.YticogmpafehomaaGreatDoor
open Go.RowKit Go.Proofs.YticogmpafehomaaGreatDoorW.PrintWords

end Go.Proofs.YticogmpafehomaaGreatDoor

set_option linter.unusedVariables false
set_option linter.unusedSimpArgs false
namespace Go.Proofs.YticogmpafehomaaGreatDoor
open Go.RowKit Go.Proofs.YticogmpafehomaaGreatDoorW.PrintWords

set_option maxRecDepth 100000 in
theorem dload_err {w : World} {A : Option Addr} {c : Nat} {b : List Int} (hl : b.length ≤ 9223372036854775807) (h : ¬ (b.length % 64 = 0 ∧ 16 ≤ b.length / 64 ∧ b.length / 64 ≤ 4096)) :
  Calls Tryz.prog 37 #[.slice A b.length c] w fun e w' => e = .returned (.tuple #[.pointer none, .int .i64 1]) ∧ w = w' := by
  have hq2 : ((b.length : Int)).tdiv 64 = ((b.length / 64 : Nat) : Int) := by rw [Int.tdiv_eq_ediv_of_nonneg (by omega)]; omega
  by_cases hm : b.length % 64 = 0
  · have hq1 : (b.length : Int) % 64 = 0 := by omega
    have hn : ((b.length / 64 : Nat) : Int) < 16 ∨ 4096 < ((b.length / 64 : Nat) : Int) := by omega
    have HN := hid hn
    clear hm h hn
    have h9 : b.length / 64 ≤ 9223372036854775807 := by omega
    generalize hx : b.length / 64 = x at hq2 HN h9
    clear hx
    go_enter Tryz.func37, Tryz.ntmps37
    go_wp2_with fail
    refine (new_err x HN.out).mono ?_
    rintro e w1 ⟨rfl, rfl⟩
    go_wp2
    go_ret2
    exact ⟨rfl, rfl⟩
  · have hq1 : ((b.length : Int) % 64 != 0) = true := by simp; omega
    clear hm h hq2
    go_enter Tryz.func37, Tryz.ntmps37
    go_wp2
    go_ret2
    exact ⟨rfl, rfl⟩
end Go.Proofs.YticogmpafehomaaGreatDoor

set_option linter.unusedVariables false
set_option linter.unusedSimpArgs false
namespace Go.Proofs.YticogmpafehomaaGreatDoor
open Go.RowKit Go.Maps Go.Proofs.YticogmpafehomaaGreatDoorW.PrintWords Go.Proofs.YticogmpafehomaaGreatDoorW.PrintMore

/-- Between two changes: k of them have been done; the row beside says the state. -/
def Goes (w wr : World) (pd ps : Nat) (S : SM) (A : Option Addr) (k : Nat) : Prop := Sys w wr pd ps S [⟨A, S.E.length, S.E⟩] ∧ (∃ lg, Good S lg) ∧ S.D.left < 0 ∧ S.D.ws.length ≤ 1 + 4096 * k
theorem ws_step {a b k : Nat} (h : b ≤ 1 + 4096 * k) (h2 : a ≤ b + 4096) : a ≤ 1 + 4096 * (k + 1) := Nat.le_trans h2 (Nat.le_trans (Nat.add_le_add_right h 4096) (Nat.le_of_eq (by rw [Nat.mul_succ, Nat.add_assoc])))
set_option maxRecDepth 100000 in
theorem Goes.room {w wr : World} {pd ps k : Nat} {S : SM} {A : Option Addr} (h : Goes w wr pd ps S A k) (hk : k ≤ 1048576) : Room S.D := room_le (m := 4294971393) (Nat.le_trans h.2.2.2 (by omega)) (by decide)
theorem Good.bytes {S : SM} {l : List SR} (h : Good S l) : ∀ x ∈ S.E, Bytes x.2 := fun x hx => (h.wf.ent x hx).2.1
/-- What a change has made. -/
theorem Step.two {S : SM} {o : Op24} {R : Int × SM} (h : Step S o R) : (R.1 = 0 ∧ withE S.E o = R.2.E) ∨ (¬ R.1 = 0 ∧ R.2 = S) := by
  rcases h.res with ⟨a, b⟩ | ⟨a, _⟩ | ⟨a, b⟩ | ⟨a, _⟩
  · exact .inl ⟨a, b.symm⟩
  · exact .inr ⟨by rw [a]; simp, by rw [a]⟩
  · exact .inr ⟨by omega, b⟩
  · exact .inr ⟨by rw [a]; simp, by rw [a]⟩
/-- A row of Ops that is read: one of them. -/
theorem ops_at {w : World} {A : Option Addr} {n : Nat} {l : List Op24} (hL : KOp24.C w A n l) (hn : l.length = n) {k : Nat} (hk : k < n) (hG : ∀ o ∈ l, o.ok) : ∃ ad o B cb, A = some ad ∧ (∀ j v, (opA o B cb).toList[j]? = some v → w.cell? ((ad.add (k * 4)).add j) = some v) ∧ o.data.length ≤ cb ∧ RB w (fun k => k < w.heap.size) B o.data ∧ o.ok := by
  cases A with
  | none =>
    obtain ⟨_, e, _⟩ := hL.2.2 (by omega)
    cases e
  | some ad =>
    have hkl : k < l.length := by omega
    obtain ⟨B, cb, hcell, hlb, hCb⟩ := op24_at hL hkl
    exact ⟨ad, l[k], B, cb, rfl, hcell, hlb, RB_of_C9 hCb, hG _ (List.getElem_mem hkl)⟩
set_option maxRecDepth 100000 in
set_option maxHeartbeats 8000000 in
theorem storeAnything_any {w : World} {A A2 : Option Addr} {c c2 : Nat} {b : List Int} {l : List Op24} (hC : KB.C w A b.length b) (hb : Bytes b) (hbl : b.length ≤ 140737488351232) (hL : KOp24.C w A2 l.length l) (hll : l.length ≤ 140737488351232) (hG : ∀ o ∈ l, o.ok) :
    Calls Tryz.prog 8 #[.slice A b.length c, .slice A2 l.length c2] w fun e w' => e = .returned (.bool true) ∧ Below w.heap.size w w' := by
  have hlv := live_any (w := w)
  obtain ⟨n, hn⟩ : ∃ n, l.length = n := ⟨_, rfl⟩
  rw [hn] at hL hll ⊢
  have HL := hid (And.intro hL (And.intro hn hG))
  have HB := hid hb
  clear hL hn hG hb
  go_enter Tryz.func8, Tryz.ntmps8
  go_wp2_with fail
  refine hlv.mono ?_
  rintro e w1 ⟨rfl, hB1⟩
  have hC1 := Kd.C_below hC hB1
  clear hlv hC
  go_wp2_with (at_builtin; refine print_append_row (w0 := w1) w1.heap.size rfl (.tmp 16) (.tmp 17) 25 5 .u8 1 rfl Tryz.underlying25 info_u8 (by decide) _ [] b A b.length c rfl rfl ?HO ?HR ?HB ?hb ?hl ?_)
  case HO => exact World.ownsRow_made (e := 5) (size := 1) (base := w1.heap.size) w1 #[] 0 (by simp) (Nat.zero_le _) rfl
  case HR => exact (C_int hC1).below (below_alloc (Below.refl _ _) _)
  case HB => exact below_alloc (Below.refl _ _) _
  case hb => simp
  case hl => simp; omega
  intro v1 w2 hown hB2 hg hat
  have ho2 : w2.ownsRow w1.heap.size 5 1 v1 b.length (nums .u8 b) := by simpa using hown
  have hB02 : Below w.heap.size w w2 := hB1.trans (hB2.mono hB1.size)
  have hR2 : KB.R 5 w2 w1.heap.size (fun q => w1.heap.size ≤ q) v1 b := Rown ho2 (fun q hq => own_base ho2 q hq)
  obtain ⟨Av, cv, rfl⟩ := Kd.R_slice hR2
  clear hg hat hown hC1 hB1 hB2
  by_cases hfit : b.length % 64 = 0 ∧ 16 ≤ b.length / 64 ∧ b.length / 64 ≤ 4096
  · obtain ⟨n0, hn0⟩ : ∃ n0, b.length / 64 = n0 := ⟨_, rfl⟩
    have hlen : b.length = 64 * n0 := by omega
    have h1 : 16 ≤ n0 := by omega
    have h2 : n0 ≤ 4096 := by omega
    obtain ⟨g, cap, he, hg1, hg2⟩ := ho2.form (by omega)
    injection he with hA1 _ hcv
    subst hA1 hcv
    have hof := own_form ho2
    have hC2 : KB.C w2 (some ⟨g, 0, none⟩) b.length b := Kd.F_now (R_RB hR2).2
    have hld := dload_ok (c := cv) n0 hC2 hlen h1 h2 HB.out hof.1 (Nat.le_trans hof.2 (by decide))
    have hfr := format_res (load_wf hlen h1 h2 HB.out) (show (DM.load b).gone = false from rfl)
    have HF := hid hfr
    clear hfr hfit hn0 hof hC2 hR2 ho2 hlen h1 h2
    go_wp2_with fail
    refine hld.mono ?_
    rintro e w3 ⟨pd, rfl, hP3, hB3⟩
    have hfm := format_any hP3.bound (by simp [DM.load]) (fun k hk => hk.2)
    have hs2 := hB02.size
    have hs3 := hB3.size
    have hB03 := hB02.trans (hB3.mono hs2)
    clear hld hP3 hB3
    rcases HF.out with ⟨hf, _⟩ | ⟨hf, _⟩ | ⟨S0, hf, hgood, hE, _, hws, hlf, _, _, _⟩
    · rw [hf] at hfm
      dsimp only at hfm
      go_wp2_with fail
      refine hfm.mono ?_
      rintro e w4 ⟨v, rfl, ⟨rfl, hP4⟩, hC4⟩
      have hct := count_any hP4
      have hB04 := hB03.trans (hC4.below_ (B := w.heap.size) hB03.size (fun k hk => Nat.le_trans hs2 hk.1))
      have H4 := hid hB04
      clear hfm hP4 hC4 hB04 hB03 hB02
      go_wp2_with fail
      refine hct.mono ?_
      rintro e w' ⟨rfl, rfl⟩
      have hz : (((DM.load b).ws.length : Nat) : Int) = 0 := rfl
      clear hct
      go_wp2
      go_ret
      exact ⟨rfl, H4.out⟩
    · exact absurd hf (by simp [DM.load])
    · rw [hf] at hfm
      dsimp only at hfm
      have HS := hid (show (∃ lg, Good S0 lg) ∧ S0.D.left < 0 ∧ S0.D.ws.length ≤ 1 + 4096 * 0 ∧ S0.E = [] from ⟨⟨[], hgood⟩, by rw [hlf]; simp [DM.load, leftOf], by rw [hws]; simp [DM.load], hE⟩)
      clear hf hgood hE hws hlf HF
      go_wp2_with fail
      refine hfm.mono ?_
      rintro e w4 ⟨v, rfl, ⟨ps, okd, okS, rfl, hP4, hS4, hap4, hgd4, hgs4⟩, hC4⟩
      have hs4 := hC4.size
      have h0 : OwnSys w w4 pd ps S0 (fun k => okd k ∧ k < w4.heap.size) (fun k => okS k ∧ k < w4.heap.size) :=
        ⟨hP4.bound, hS4.bound, fun k q1 q2 => hap4 k q1.1 q2.1, fun k hk => ⟨(hgd4 k hk.1).elim (fun e => Nat.le_trans hs2 e.1) (fun e => Nat.le_trans hs2 (Nat.le_trans hs3 e)), hk.2⟩, fun k hk => ⟨Nat.le_trans hs2 (Nat.le_trans hs3 (hgs4 k hk.1)), hk.2⟩,
          hB03.trans (hC4.below_ (B := w.heap.size) hB03.size (fun k hk => Nat.le_trans hs2 hk.1))⟩
      have hst := Sys.start h0
      have HG := hid (show Goes w w4 pd ps S0 none 0 from ⟨by rw [HS.out.2.2.2]; exact hst, HS.out.1, HS.out.2.1, HS.out.2.2.1⟩)
      have HE := hid HS.out.2.2.2
      clear hfm hP4 hS4 hap4 hgd4 hgs4 hC4 h0 hst HS hB03 hB02 hs2 hs3 hs4
      go_wp2_with fail
      go_loopw [7, 8, 9] (fun sv stv i wr => ∃ (k ps : Nat) (S : SM) (A3 : Option Addr) (c3 : Nat), k ≤ n ∧ k ≤ 12 ∧ i = .int .i64 k ∧ sv = .pointer (some ⟨ps, 0, none⟩) ∧ stv = .slice A3 S.E.length c3 ∧ Hid (Goes w wr pd ps S A3 k)) (fun _ _ i _ => n - (intOf i).toNat)
      case atStart => exact ⟨0, ps, S0, none, 0, Nat.zero_le _, Nat.zero_le _, rfl, rfl, by rw [HE.out]; rfl, HG⟩
      case round =>
        obtain ⟨W, hW⟩ : ∃ W : World, W = wr := ⟨_, rfl⟩
        subst hW
        clear HG HE
        obtain ⟨k, ps, S, A3, c3, hkn, hk12, rfl, rfl, rfl, hgo⟩ := hrel
        have hroom := hgo.out.room (by omega)
        obtain ⟨hsys, ⟨lg, hg⟩, hleft, hws⟩ := hgo.out
        have hlen := hg.len
        by_cases hlt : k < n ∧ k < 12
        · have hltI : (k : Int) < (n : Int) := by omega
          have hlt12 : (k : Int) < 12 := by omega
          obtain ⟨ad, o, B, cb, rfl, hcell, hlb, hRB, hok⟩ := ops_at HL.out.1 HL.out.2.1 hlt.1 HL.out.2.2
          have hst := chF_step hg hleft hok
          have hch := hsys.change hg hroom hok hRB hlb
          have hcw : ∀ j v, (opA o B cb).toList[j]? = some v → W.cell? ((ad.add (k * 4)).add j) = some v := fun j v hj => pw_cell_below hsys.bel (hcell j v hj)
          have hwt := hst.two
          obtain ⟨⟨e, S2⟩, hR⟩ : ∃ R, chF S o = R := ⟨_, rfl⟩
          rw [hR] at hst hch hwt
          dsimp only at hst hch hwt
          have hws2 := ws_step hws hst.ws
          have hl2 := hst.left
          obtain ⟨lg2, hg2⟩ := hst.good
          have hlen2 := hg2.len
          have HG2 := hid (And.intro hg2 (And.intro hws2 (And.intro hl2 (And.intro hg.wf.sorted (And.intro hRB (And.intro hlb hok))))))
          have hcell' := hid hcell
          unfold opA at hcw hch
          clear hst hws hleft hRB hlb hR hsys hgo hroom hws2 hl2 hcell
          go_wp2_with (refine wpList_load_addr rfl 41 (.tmp 57) rfl (ad.add (k * 4)) rfl [.int .i64 o.kind, .int .i64 o.n, .string o.key, .slice B o.data.length cb] _ hcw Tryz.underlying41 rfl (by kernel_rfl) ?_)
          clear hcw
          go_wp2_with fail
          refine hch.mono ?_
          rintro e5 w5 ⟨rfl, hs5⟩
          clear hch
          rcases hwt with ⟨rfl, hwe⟩ | ⟨hne, rfl⟩
          · have hcw5 : ∀ j v, (opA o B cb).toList[j]? = some v → w5.cell? ((ad.add (k * 4)).add j) = some v := fun j v hj => pw_cell_below hs5.bel (hcell'.out j v hj)
            have hwi := hs5.with_ (c := c3) (List.mem_singleton.2 rfl) HG2.out.2.2.2.1 (by omega) HG2.out.2.2.2.2.2.2 HG2.out.2.2.2.2.1 HG2.out.2.2.2.2.2.1
            rw [hwe] at hwi
            unfold opA at hcw5 hwi
            clear hwe hs5
            go_wp2_with (refine wpList_load_addr rfl 41 (.tmp 65) rfl (ad.add (k * 4)) rfl [.int .i64 o.kind, .int .i64 o.n, .string o.key, .slice B o.data.length cb] _ hcw5 Tryz.underlying41 rfl (by kernel_rfl) ?_)
            clear hcw5
            go_wp2_with fail
            refine hwi.mono ?_
            rintro e6 w6 ⟨A6, c6, rfl, hs6, _⟩
            have hop := hs6.open_ rfl HG2.out.1
            clear hwi
            go_wp2_with fail
            refine hop.mono ?_
            rintro e7 w7 ⟨p2, rfl, _, hs7, _⟩
            have hsa := hs7.state HG2.out.1.wf (by omega)
            clear hop hs6
            go_wp2_with fail
            refine hsa.mono ?_
            rintro e8 w8 ⟨A8, c8, rfl, hs8, _⟩
            have hsm := hs8.same (A := A8) (B := A6) (cA := c8) (cB := c6) (E := S2.E) (F := S2.E) (n := S2.E.length) (m := S2.E.length) (by simp) (by simp) (by omega) (by omega) HG2.out.1.bytes HG2.out.1.bytes
            rw [decide_eq_true rfl] at hsm
            clear hsa hs7
            go_wp2_with fail
            refine hsm.mono ?_
            rintro e9 w9 ⟨rfl, hs9, _⟩
            have HZ := hid (show Goes w w9 pd p2 S2 A6 (k + 1) from ⟨hs9.sub (fun r hr => by rw [List.mem_singleton.1 hr]; simp), ⟨lg2, HG2.out.1⟩, HG2.out.2.2.1, HG2.out.2.1⟩)
            clear hsm hs8 hs9
            go_wp2
            go_roundw
            case rel => exact ⟨k + 1, p2, S2, A6, c6, by omega, by omega, by go_num, rfl, rfl, HZ⟩
            case measure => simp [intOf]; omega
          · have hne2 : (e == 0) = false := by simpa using hne
            have hop := hs5.open_ rfl HG2.out.1
            clear hne
            go_wp2_with fail
            refine hop.mono ?_
            rintro e7 w7 ⟨p2, rfl, _, hs7, _⟩
            have hsa := hs7.state HG2.out.1.wf (by omega)
            clear hop hs5
            go_wp2_with fail
            refine hsa.mono ?_
            rintro e8 w8 ⟨A8, c8, rfl, hs8, _⟩
            have hsm := hs8.same (A := A8) (B := A3) (cA := c8) (cB := c3) (E := S2.E) (F := S2.E) (n := S2.E.length) (m := S2.E.length) (by simp) (by simp) (by omega) (by omega) HG2.out.1.bytes HG2.out.1.bytes
            rw [decide_eq_true rfl] at hsm
            clear hsa hs7
            go_wp2_with fail
            refine hsm.mono ?_
            rintro e9 w9 ⟨rfl, hs9, _⟩
            have HZ := hid (show Goes w w9 pd p2 S2 A3 (k + 1) from ⟨hs9.sub (fun r hr => by rw [List.mem_singleton.1 hr]; simp), ⟨lg2, HG2.out.1⟩, HG2.out.2.2.1, HG2.out.2.1⟩)
            clear hsm hs8 hs9
            go_wp2
            go_roundw
            case rel => exact ⟨k + 1, p2, S2, A3, c3, by omega, by omega, by go_num, rfl, rfl, HZ⟩
            case measure => simp [intOf]; omega
        · have hsa := hsys.state hg.wf (by omega)
          have HG3 := hid hg.bytes
          have hout : ¬ (k : Int) < (n : Int) ∨ ((k : Int) < (n : Int) ∧ ¬ (k : Int) < 12) := by omega
          clear hroom hgo hg hleft hws hlt hsys
          rcases hout with hq | ⟨hq, hq2⟩
          · go_wp2_with fail
            refine hsa.mono ?_
            rintro e8 w8 ⟨A8, c8, rfl, hs8, _⟩
            have hsm := hs8.same (A := A8) (B := A3) (cA := c8) (cB := c3) (E := S.E) (F := S.E) (n := S.E.length) (m := S.E.length) (by simp) (by simp) (by omega) (by omega) HG3.out HG3.out
            rw [decide_eq_true rfl] at hsm
            clear hsa
            go_wp2_with fail
            refine hsm.mono ?_
            rintro e9 w9 ⟨rfl, hs9, _⟩
            have HZ := hid hs9.bel
            clear hsm hs8 hs9
            go_wp2
            go_ret
            exact ⟨rfl, HZ.out⟩
          · go_wp2_with fail
            refine hsa.mono ?_
            rintro e8 w8 ⟨A8, c8, rfl, hs8, _⟩
            have hsm := hs8.same (A := A8) (B := A3) (cA := c8) (cB := c3) (E := S.E) (F := S.E) (n := S.E.length) (m := S.E.length) (by simp) (by simp) (by omega) (by omega) HG3.out HG3.out
            rw [decide_eq_true rfl] at hsm
            clear hsa
            go_wp2_with fail
            refine hsm.mono ?_
            rintro e9 w9 ⟨rfl, hs9, _⟩
            have HZ := hid hs9.bel
            clear hsm hs8 hs9
            go_wp2
            go_ret
            exact ⟨rfl, HZ.out⟩
  · have hde := dload_err (w := w2) (A := Av) (c := cv) (by omega) hfit
    have HZ := hid hB02
    clear hfit hB02 hR2 ho2
    go_wp2_with fail
    refine hde.mono ?_
    rintro e w3 ⟨rfl, rfl⟩
    clear hde
    go_wp2
    go_ret
    exact ⟨rfl, HZ.out⟩
end Go.Proofs.YticogmpafehomaaGreatDoor

set_option linter.unusedVariables false
set_option linter.unusedSimpArgs false
namespace Go.Proofs.YticogmpafehomaaGreatDoor
open Go.RowKit Go.Proofs.YticogmpafehomaaGreatDoorW.PrintWords

theorem opens_ops24 : Opens Tryz.prog 39 (Kd.slice 41 KOp24) (fun xs => (∀ x ∈ xs, x.ok) ∧ xs.length * 56 ≤ 140737488351232) :=
  opens_slice Tryz.underlying39 (by kernel_rfl) (by kernel_rfl) opens_op24
theorem storeAnything_row {W : World} {A A2 : Option Addr} {c c2 : Nat} {b : List Int} {l : List Op24} (hC : KB.C W A b.length b) (hb : Bytes b ∧ b.length ≤ 140737488351232) (hL : KOp24.C W A2 l.length l) (hG : (∀ o ∈ l, o.ok) ∧ l.length * 56 ≤ 140737488351232) :
    Calls Tryz.prog 8 #[.slice A b.length c, .slice A2 l.length c2] W fun e W' => e = .returned (.bool true) ∧ Below W.heap.size W W' :=
  storeAnything_any hC hb.1 hb.2 hL (by have := hG.2; omega) hG.1
end Go.Proofs.YticogmpafehomaaGreatDoor

set_option linter.unusedVariables false
set_option linter.unusedSimpArgs false
namespace Go.Proofs.YticogmpafehomaaGreatDoor
open Go.ChangeShapes Go.WideShapes Go.ChangeAt Go.RowKit Go.Proofs.YticogmpafehomaaGreatDoorW.PrintWords
open Go.ChangeMaps (open_string shut_string)
set_option linter.unusedVariables false
set_option maxRecDepth 100000 in
theorem storeAnything_contract (H : Type) (enc : TypeId × Value → H) (W : World) (base : Nat) (args : Array Value) (ds gs : List (DataW H)) (before : List MemPlace)
    (hval0 : ∀ (j : Nat) t v, Tryz.f8.params[j]? = some t → args[j]? = some v → Value.okWide Tryz.prog W .any base t v)
    (hW : DataW.Whole enc Tryz.prog Tryz.f8.params.toList Rows.storeAnythingSpec.vars false W args.toList ds gs before)
    (hsz0 : (DataW.weightsEach Tryz.prog (Tryz.f8.params.toList ++ Rows.storeAnythingSpec.plain.varTypes Tryz.prog) (ds ++ gs)).all (· ≤ reachBytes) = true) (N : NOK W) :
    Calls Tryz.prog 8 args W fun e W' => ∃ v, e = .returned v ∧ Rows.storeAnythingSpec.post enc Tryz.prog Tryz.f8 false true false false W args v W' := by
  have hsz := hsz0
  have hval := hval0
  have hW' := hW
  obtain ⟨p, q, hA0, hV, rfl, hfz, hnd⟩ := hW
  have hA : DataW.TrodAll enc Tryz.prog W 0 (fun _ => true) true Tryz.f8.params.toList args.toList ds p := hA0
  rw [Tryz.params8] at hA hval hsz
  obtain ⟨v0, vs0, d0, ds0, p0, q0, hargs, rfl, rfl, h0, r0⟩ := trodAll_cons hA
  obtain ⟨v1, vs1, d1, ds1, p1, q1, rfl, rfl, rfl, h1, r1⟩ := trodAll_cons r0
  obtain ⟨rfl, rfl, rfl⟩ := trodAll_nil r1
  obtain rfl : args = #[v0, v1] := by cases args; simp_all
  obtain ⟨rfl, rfl⟩ := trodVars_none hV
  have lt0 : ∀ x ∈ p0, x.block < W.heap.size := by obtain ⟨m, hm⟩ := h0; exact DataW.trod_lt m _ _ _ hm
  obtain ⟨A0, len0, c0, rfl⟩ := okWide_slice Tryz.underlying25 (hval 0 25 v0 rfl rfl)
  obtain ⟨l0, rfl, hl0, k0, g0⟩ := opens_slice_arg opens_bytes hsz (j := 0) (t := 25) rfl rfl h0
  have lt1 : ∀ x ∈ p1, x.block < W.heap.size := by obtain ⟨m, hm⟩ := h1; exact DataW.trod_lt m _ _ _ hm
  obtain ⟨A1, len1, c1, rfl⟩ := okWide_slice Tryz.underlying39 (hval 1 39 v1 rfl rfl)
  obtain ⟨l1, rfl, hl1, k1, g1⟩ := opens_slice_arg opens_ops24 hsz (j := 1) (t := 39) rfl rfl h1
  clear hA0 hval0 hsz0 hsz
  refine (storeAnything_row k0 g0 k1 g1).mono fun e W' ⟨he, bel⟩ => ?_
  subst he
  exact ⟨_, rfl, _, _, _, [], _, [], hW', trodAll_mk1 (shut_bool Tryz.underlying4 _), (trodAll_cons_mk (Below.trod names_laidOut (by kernel_rfl) (of_decide_eq_true (by kernel_rfl)) h0 bel lt0) (trodAll_cons_mk (Below.trod names_laidOut (by kernel_rfl) (of_decide_eq_true (by kernel_rfl)) h1 bel lt1) trodAll_mk0)), rfl, bel.frame _, fun h => by cases h⟩
theorem storeAnything_reads (os : Os) {H : Type} (enc : TypeId × Value → H) : ∃ places, DataW.whole enc Tryz.prog ((laidWorld os).forCall (fun _ _ => 0) ⟨#[], #[.slice none 0 0, .slice none 0 0], []⟩).memory Tryz.f8.params.toList Rows.storeAnythingSpec.vars false (#[.slice none 0 0, .slice none 0 0] : Array Value).toList 8 = some ([.nil, .nil], [], places) :=
  ⟨[], by kernel_rfl⟩
set_option maxRecDepth 100000 in
theorem storeAnything_lifted (os : Os) (started : os.Started) (H : Type) (enc : TypeId × Value → H) (F : Stop.Interp) :
    ReturnsInHanded {} Tryz.checked os 8 .any ((OpenSpec.ofChange Rows.storeAnythingSpec).preRow enc Tryz.prog Tryz.f8 Rows.storeAnythingRow.domain false Rows.storeAnythingRow.laid) (((OpenSpec.ofChange Rows.storeAnythingSpec).at F).post enc Tryz.prog Tryz.f8 false true false false) := by
  obtain ⟨places, hx⟩ := storeAnything_reads os enc
  refine returnsInHanded_of_row (C := Tryz.checked) (s := OpenSpec.ofChange Rows.storeAnythingSpec) names_own started (by kernel_rfl) Tryz.func8
    (witness_row_atRef (enc := enc) (C := Tryz.checked) false (laidWorld os) #[.slice none 0 0, .slice none 0 0] rfl (by kernel_rfl) (by kernel_rfl) (by kernel_rfl)
      (OpenSpec.preRow_of_cond 8 hx (by kernel_rfl) (fun k hk => by cases hk) (by kernel_rfl) (laid_met os _))) ?_
  intro W base args ds gs before hval hW _ hcond hsz hL hsh _
  exact storeAnything_contract H enc W base args ds gs before hval hW hsz (NOK_of hL hsh)
theorem storeAnything_said : Rows.StoreAnythingSaid :=
  OpenClaim.holds_of_cond 8 Tryz.f8 rfl rfl rfl rfl rfl rfl rfl ⟨rfl, rfl, rfl, rfl, rfl⟩ rfl rfl rfl rfl rfl (by kernel_rfl) Tryz.func8 (by kernel_rfl)
    (of_decide_eq_true (by kernel_rfl)) (by unfold Func.isWrapper; first | (rw [if_pos (by decide +kernel)]; kernel_rfl) | (rw [if_neg (by decide +kernel)]; exact ⟨rfl, rfl⟩))
    (fun os started H enc _ F => by rw [OpenClaim.pre_eq_preRow]; exact storeAnything_lifted os started H enc F)
theorem storeAnything_plain (f : FuncId) (fn : Func) (hf : Tryz.pinned.checked.prog.funcNamed "foundry/foundrylaw24.StoreAnything" = some f) (hfn : Tryz.pinned.checked.prog.funcs[f]? = some fn) :
    true = Tryz.pinned.checked.prog.looks [] ∧ ∀ (j : Nat) t, fn.params[j]? = some t → Tryz.pinned.checked.prog.wantsStandIn t = false := by
  obtain rfl : f = 8 := Option.some.inj ((show Tryz.prog.funcNamed "foundry/foundrylaw24.StoreAnything" = some 8 by kernel_rfl).symm.trans hf) |>.symm
  obtain rfl : fn = Tryz.f8 := (Option.some.inj (Tryz.func8.symm.trans hfn)).symm
  refine ⟨by kernel_rfl, fun j t ht => ?_⟩
  rw [Tryz.params8] at ht
  have hm := Array.mem_of_getElem? ht
  have hall : (#[25, 39] : Array Nat).all (fun t => !(Tryz.prog.wantsStandIn t)) = true := by kernel_rfl
  have := Array.all_eq_true'.1 hall t hm
  have h2 : Tryz.prog.wantsStandIn t = false := by simpa using this
  exact h2
/-- The card, for the claim. -/
theorem storeAnything_holds : Rows.StoreAnythingCardSaid :=
  Claim7.holds_tied_plain_at .later [] _ _ _ _ storeAnything_said (fun _ h => by cases h) (by kernel_rfl) (fun _ h => by cases h) storeAnything_row_tie rfl ⟨rfl, rfl⟩ (by kernel_rfl) rfl storeAnything_plain (by kernel_rfl)
#print axioms storeAnything_holds
end Go.Proofs.YticogmpafehomaaGreatDoor
