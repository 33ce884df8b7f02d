/- Texts of one seat, laid together. -/
import Derived.Maps.OwnSet
import Derived.Maps.Ext
import Derived.Maps.Range
import Derived.Sort.KeysCollected
import Derived.Shelf.Small.Bits
import Derived.Shelf.Strconv.Itoa0
import Derived.Shelf.Sort.Plain
import Derived.Ground.Names2Prog
import Derived.Shelf.Slices.Clone
import Derived.Shelf.Slices.CompactS
import Derived.Shelf.Slices.Cells
import Derived.Shelf.Slices.In.SortNone
import Derived.Test.YticogmpafehomaaGreatDoorProg
import Derived.Sort.OwnSorted
import Derived.WalkKit
import Derived.WalkSpells
import Derived.WalkLawsBesides
import Derived.Shelf.SlIter.Nil
import Derived.Shelf.SortM.Plain
import Derived.Shelf.SortM.SortNone
import Derived.Ground.GgzProg
import Derived.Ground.SlgmProg
import Derived.Maps.RangeWalk
import Derived.Shelf.SlMaps.Clone
import Derived.Test.YticogmpafehomaaGreatDoorGKCU2
import Derived.Test.YticogmpafehomaaGreatDoorGKCU1

set_option linter.unusedVariables false
set_option linter.unusedSimpArgs false
namespace Go.Proofs.YticogmpafehomaaGreatDoor
open Go.RowKit Go.Proofs.YticogmpafehomaaGreatDoorW.PrintWords

/-- A reader's state: the bytes that are left (of no weight where there is an error), the error. -/
structure St where
  b : List Int
  e : Int
def St.took {α : Type} (s : St) (o : Out α) : St := if s.e = 0 then (match o with
  | .ok (_, r) => ⟨r, 0⟩
  | .error x => ⟨[], x⟩) else s
def St.out {α : Type} (s : St) (o : Out α) (z : α) : α := if s.e = 0 then (match o with
  | .ok (v, _) => v
  | .error _ => z) else z
/-- The program's reader is in a state. -/
def PSt (w : World) (ok : Nat → Prop) (p : Nat) (s : St) : Prop := ∃ b, PRd w ok p b s.e ∧ (s.e = 0 → b = s.b)
theorem PSt.step {w w1 : World} {ok : Nat → Prop} {p : Nat} {s : St} (h : PSt w ok p s) (hm : ∀ k, ok k → k < w.heap.size → w1.heap[k]? = w.heap[k]?) : PSt w1 ok p s := by
  obtain ⟨b, h1, h2⟩ := h; exact ⟨b, h1.step hm, h2⟩
theorem PSt.below {w w1 : World} {ok : Nat → Prop} {p : Nat} {s : St} (h : PSt w ok p s) (hm : Below w.heap.size w w1) : PSt w1 ok p s := h.step (fun k _ hk => hm.block k hk)
/-- No outcome's error is 0. -/
def Errs {α : Type} (o : Out α) : Prop := ∀ x, o = .error x → x ≠ 0
theorem errs_num (n : Nat) (b : List Int) : Errs (oNum n b) := by
  intro x h
  unfold oNum at h
  split at h
  · cases h
  · injection h with h; omega
theorem errs_int (b : List Int) : Errs (oInt b) := by
  intro x h
  unfold oInt at h
  split at h
  · split at h
    · injection h with h; omega
    · cases h
  · rename_i e he
    injection h with h
    exact h ▸ errs_num 4 b e he
theorem errs_count (most : Int) (b : List Int) : Errs (oCount most b) := by
  intro x h
  unfold oCount at h
  split at h
  · split at h
    · injection h with h; omega
    · cases h
  · rename_i e he
    injection h with h
    exact h ▸ errs_int b e he
/-- What a method of the reader does with its state. -/
def Took {α : Type} (ok : Nat → Prop) (p : Nat) (w : World) (s : St) (o : Out α) (z : α) (Q : α → World → Value → Prop) (e : Ending) (w' : World) : Prop :=
  ∃ u, e = .returned u ∧ Q (s.out o z) w' u ∧ PSt w' ok p (s.took o) ∧ Chg (fun k => k = p) w w'
theorem Ended.ended_ {α : Type} {ok : Nat → Prop} {p : Nat} {w w' : World} {s : St} {o : Out α} {z : α} {Q : α → World → Value → Prop} {zero : Value} {e : Ending} (h : Ended ok p w o Q zero e w') (he : s.e = 0) (hz : Q z w' zero) (hn : Errs o) : Took ok p w s o z Q e w' := by
  obtain ⟨hc, hm⟩ := h
  rcases o with x | ⟨v, r⟩
  · obtain ⟨rfl, b', hb⟩ := hm
    refine ⟨_, rfl, ?_, ?_, hc⟩
    · simpa [St.out, he] using hz
    · simp only [St.took, he, if_true]
      exact ⟨b', hb, fun h0 => absurd h0 (hn x rfl)⟩
  · obtain ⟨⟨u, rfl, hq⟩, hp⟩ := hm
    refine ⟨_, rfl, ?_, ?_, hc⟩
    · simpa [St.out, he] using hq
    · simp only [St.took, he, if_true]
      exact ⟨r, hp, fun _ => rfl⟩
theorem Took.skip {α : Type} {ok : Nat → Prop} {p : Nat} {w w' : World} {s : St} {o : Out α} {z : α} {Q : α → World → Value → Prop} {zero : Value} (h : PSt w ok p s) (he : ¬ s.e = 0) (hz : Q z w' zero) (hb : Below w.heap.size w w') : Took ok p w s o z Q (.returned zero) w' := by
  refine ⟨_, rfl, ?_, ?_, Chg.of_below hb _⟩
  · simpa [St.out, he] using hz
  · simp only [St.took, he, if_false]
    exact h.below hb

theorem mByte_any {w : World} {ok : Nat → Prop} {p : Nat} {s : St} (h : PSt w ok p s) (hok : ∀ k, ok k → k < w.heap.size) :
  Calls Tryz.prog 46 #[.pointer (some ⟨p, 0, none⟩)] w (Took ok p w s (oNum 1 s.b) 0 fun v _ u => u = .int .u8 v) := by
  obtain ⟨b, hp, hb⟩ := h
  have hlt := hp.lt
  have hbx : Below w.heap.size w (w.alloc (.cells #[.pointer (some ⟨p, 0, none⟩)] 82)) := below_alloc (Below.refl _ _) _
  have hp1 := hp.below hbx
  have hcell : (w.alloc (.cells #[.pointer (some ⟨p, 0, none⟩)] 82)).cell? ⟨w.heap.size, 0, none⟩ = some (.pointer (some ⟨p, 0, none⟩)) := by simp
  have hmf := make_func
  have g : Calls Tryz.prog 99 #[.pointer (some ⟨p, 0, none⟩), .func (.func 100) #[] #[.pointer (some ⟨w.heap.size, 0, none⟩)]] (w.alloc (.cells #[.pointer (some ⟨p, 0, none⟩)] 82)) (Took ok p (w.alloc (.cells #[.pointer (some ⟨p, 0, none⟩)] 82)) s (oNum 1 s.b) 0 fun v _ u => u = .int .u8 v) := by
    by_cases he : s.e = 0
    · obtain rfl := hb he
      rw [he] at hp hp1
      have hK : ∀ w1, Below (w.heap.size + 1) (w.alloc (.cells #[.pointer (some ⟨p, 0, none⟩)] 82)) w1 → w.heap.size + 1 + 2 ≤ w1.heap.size → Calls Tryz.prog 100 #[.pointer (some ⟨w.heap.size, 0, none⟩)] w1 (Ends ok p w1 (oNum 1 s.b) fun v _ u => u = .int .u8 v) := by
        intro w1 hb1 _
        rw [← World.size_alloc w (.cells #[.pointer (some ⟨p, 0, none⟩)] 82)] at hb1
        exact byte_in (hp1.below hb1) ⟨(hb1.cell (p := ⟨w.heap.size, 0, none⟩) (by simp)).trans hcell, by omega⟩
      have g := guard_byte (K := 100) (o := oNum 1 s.b) (Q := fun v _ u => u = .int .u8 v) (cap := #[.pointer (some ⟨w.heap.size, 0, none⟩)]) hp1 (fun k hk => by have := hok k hk; rw [World.size_alloc]; omega) (fun _ _ _ hq => ⟨_, hq⟩) (fun _ _ _ _ _ hq _ => hq) (Go.Proofs.YticogmpafehomaaGreatDoorW.PrintLast.enters_ Tryz.func100 (by kernel_rfl) (by kernel_rfl)) (by rw [World.size_alloc]; exact hK)
      exact g.mono fun e w' h => h.ended_ he rfl (errs_num 1 _)
    · refine (skip_byte hp1 he).mono ?_
      rintro e w' ⟨rfl, hbb⟩
      exact Took.skip ⟨b, hp1, fun h0 => absurd h0 he⟩ he rfl hbb
  generalize oNum 1 s.b = o at g
  clear hcell hp1 hp hb
  go_enter Tryz.func46, Tryz.ntmps46
  go_wp2_with fail
  refine g.mono ?_
  rintro e w1 ⟨u, rfl, rfl, hP, hC⟩
  have hC2 : Chg (fun k => k = p) w w1 := (Chg.of_below hbx _).then_ hC (fun _ h => .inl h)
  have HF := hid (And.intro hP hC2)
  clear hP hC hC2 g hbx
  go_wp2
  go_ret
  exact ⟨_, rfl, rfl, HF.out⟩
theorem mLong_any {w : World} {ok : Nat → Prop} {p : Nat} {s : St} (h : PSt w ok p s) (hok : ∀ k, ok k → k < w.heap.size) :
  Calls Tryz.prog 45 #[.pointer (some ⟨p, 0, none⟩)] w (Took ok p w s (oNum 8 s.b) 0 fun v _ u => u = .int .u64 v) := by
  obtain ⟨b, hp, hb⟩ := h
  have hlt := hp.lt
  have hbx : Below w.heap.size w (w.alloc (.cells #[.pointer (some ⟨p, 0, none⟩)] 82)) := below_alloc (Below.refl _ _) _
  have hp1 := hp.below hbx
  have hcell : (w.alloc (.cells #[.pointer (some ⟨p, 0, none⟩)] 82)).cell? ⟨w.heap.size, 0, none⟩ = some (.pointer (some ⟨p, 0, none⟩)) := by simp
  have hmf := make_func
  have g : Calls Tryz.prog 95 #[.pointer (some ⟨p, 0, none⟩), .func (.func 96) #[] #[.pointer (some ⟨w.heap.size, 0, none⟩)]] (w.alloc (.cells #[.pointer (some ⟨p, 0, none⟩)] 82)) (Took ok p (w.alloc (.cells #[.pointer (some ⟨p, 0, none⟩)] 82)) s (oNum 8 s.b) 0 fun v _ u => u = .int .u64 v) := by
    by_cases he : s.e = 0
    · obtain rfl := hb he
      rw [he] at hp hp1
      have hK : ∀ w1, Below (w.heap.size + 1) (w.alloc (.cells #[.pointer (some ⟨p, 0, none⟩)] 82)) w1 → w.heap.size + 1 + 2 ≤ w1.heap.size → Calls Tryz.prog 96 #[.pointer (some ⟨w.heap.size, 0, none⟩)] w1 (Ends ok p w1 (oNum 8 s.b) fun v _ u => u = .int .u64 v) := by
        intro w1 hb1 _
        rw [← World.size_alloc w (.cells #[.pointer (some ⟨p, 0, none⟩)] 82)] at hb1
        exact long_in (hp1.below hb1) ⟨(hb1.cell (p := ⟨w.heap.size, 0, none⟩) (by simp)).trans hcell, by omega⟩
      have g := guard_u64 (K := 96) (o := oNum 8 s.b) (Q := fun v _ u => u = .int .u64 v) (cap := #[.pointer (some ⟨w.heap.size, 0, none⟩)]) hp1 (fun k hk => by have := hok k hk; rw [World.size_alloc]; omega) (fun _ _ _ hq => ⟨_, hq⟩) (fun _ _ _ _ _ hq _ => hq) (Go.Proofs.YticogmpafehomaaGreatDoorW.PrintLast.enters_ Tryz.func96 (by kernel_rfl) (by kernel_rfl)) (by rw [World.size_alloc]; exact hK)
      exact g.mono fun e w' h => h.ended_ he rfl (errs_num 8 _)
    · refine (skip_u64 hp1 he).mono ?_
      rintro e w' ⟨rfl, hbb⟩
      exact Took.skip ⟨b, hp1, fun h0 => absurd h0 he⟩ he rfl hbb
  generalize oNum 8 s.b = o at g
  clear hcell hp1 hp hb
  go_enter Tryz.func45, Tryz.ntmps45
  go_wp2_with fail
  refine g.mono ?_
  rintro e w1 ⟨u, rfl, rfl, hP, hC⟩
  have hC2 : Chg (fun k => k = p) w w1 := (Chg.of_below hbx _).then_ hC (fun _ h => .inl h)
  have HF := hid (And.intro hP hC2)
  clear hP hC hC2 g hbx
  go_wp2
  go_ret
  exact ⟨_, rfl, rfl, HF.out⟩
end Go.Proofs.YticogmpafehomaaGreatDoor

set_option linter.unusedVariables false
set_option linter.unusedSimpArgs false
namespace Go.Proofs.YticogmpafehomaaGreatDoor
open Go.RowKit Go.Proofs.YticogmpafehomaaGreatDoorW.PrintWords

def oRaw (most : Int) (b : List Int) : Out (List Int) := match oCount most b with
  | .ok (n, r) => oNext n.toNat r
  | .error e => .error e
theorem errs_raw (most : Int) (b : List Int) : Errs (oRaw most b) := by
  intro x h
  unfold oRaw at h
  split at h
  · unfold oNext at h
    split at h
    · cases h
    · injection h with h; omega
  · rename_i e he
    injection h with h
    exact h ▸ errs_count most b e he
/-- A row of bytes of one's own, beyond B. -/
def RawQ (B : Nat) (v : List Int) (w : World) (u : Value) : Prop := ∃ A c, u = .slice A v.length c ∧ KB.R 5 w B (fun k => B ≤ k) (.slice A v.length c) v
/-- A variable that a closure has captured: it holds a number. -/
structure HeldI (w : World) (p mb : Nat) (x : Int) : Prop where
  cell : w.cell? ⟨mb, 0, none⟩ = some (.int .i64 x)
  ne : mb ≠ p
theorem HeldI.chg {w w1 : World} {p mb : Nat} {x : Int} (h : HeldI w p mb x) (c : Chg (fun k => k = p) w w1) : HeldI w1 p mb x := ⟨c.cell_ h.cell h.ne, h.ne⟩
set_option maxRecDepth 100000 in
theorem raw_in {w : World} {ok : Nat → Prop} {p rb mb B : Nat} {b : List Int} {most : Int} (h : PRd w ok p b 0) (hr : Held w p rb) (hm : HeldI w p mb most) (hB : B ≤ w.heap.size) (hp : p < B) :
  Calls Tryz.prog 114 #[.pointer (some ⟨rb, 0, none⟩), .pointer (some ⟨mb, 0, none⟩)] w (Ends ok p w (oRaw most b) (RawQ B)) := by
  have hrc := hr.cell
  have hmc := hm.cell
  have ho : oRaw most b = match oCount most b with | .ok (n, r) => oNext n.toNat r | .error e => .error e := rfl
  generalize oRaw most b = o at ho
  have HO := hid ho
  clear ho
  go_enter Tryz.func114, Tryz.ntmps114
  go_wp2_with fail
  refine wp_region_plan [] (.take 0 (.take 1 (.take 2 (.run 3 (.run 4 (.run 5 (.take 6 .done))))))) (fun w' => w'.cell? ⟨rb, 0, none⟩ = some (.pointer (some ⟨p, 0, none⟩)) ∧ w'.cell? ⟨mb, 0, none⟩ = some (.int .i64 most)) (by kernel_rfl) (by kernel_rfl) (fun c a d v w h => by cases d <;> exact h) ⟨hrc, hmc⟩ ?_
  iterate 3 (apply plan_take rfl rfl; (case hy => (intro w' hS; obtain ⟨s0, s1⟩ := hS; go_simp; try exact rfl)); go_simp)
  refine plan_run_on rfl rfl (fun K hK => ?_)
  go_simp
  have hd : PRd w.drew ok p b 0 := h.step (fun _ _ _ => rfl)
  refine (count_in most hd).mono ?_
  intro e w1 he
  obtain ⟨c1, hh⟩ := he.both
  have c1' : Chg (fun k => k = p) w w1 := (Chg.refl _ w).drew.then_ c1 (fun _ h => .inl h)
  rcases hh with ⟨n, r, u, h1, rfl, ⟨rfl, hn0, hn1⟩, h2⟩ | ⟨x, b', h1, rfl, h2⟩
  · have ho := HO.out
    rw [h1] at ho
    dsimp only at ho
    clear HO h1 he
    obtain ⟨m, rfl⟩ := Int.eq_ofNat_of_zero_le hn0
    rw [Int.toNat_natCast] at ho
    have hr1 := (hr.chg c1').cell
    have hm1 := (hm.chg c1').cell
    refine hK _ _ _ (fun _ h => h) ⟨hr1, hm1⟩ ?_
    clear hK K
    by_cases hn : m ≤ r.length
    · have ho2 : o = .ok (r.take m, r.drop m) := by rw [ho]; unfold oNext; rw [if_pos hn]
      have hlm : (r.take m).length = m := by rw [List.length_take]; omega
      refine plan_run_on rfl rfl (fun K hK => ?_)
      go_simp
      refine (next_some (n := m) h2 hn).mono ?_
      rintro e w2 ⟨A, c, rfl, hrb, h3, hc, c2⟩
      have c2' := chg_p c1' c2
      refine hK _ _ _ (fun _ h => h) ⟨(hr.chg c2').cell, (hm.chg c2').cell⟩ ?_
      clear hK K
      refine plan_run_on rfl rfl (fun K hK => ?_)
      go_simp
      have hC := Kd.F_now hrb
      have hcl := clone_any (c := c) hC (by omega)
      rw [hlm] at hcl
      refine hcl.mono ?_
      rintro e w3 ⟨A3, c3, rfl, hR3, hB3⟩
      have c3' : Chg (fun k => k = p) w w3 := c2'.same hB3
      have h4 := h3.below hB3
      have hsz : B ≤ w2.heap.size := Nat.le_trans hB c2'.size
      have hfin : Ends ok p w o (RawQ B) (.returned (.slice A3 m c3)) w3 := Ends.good ho2 c3' ⟨A3, c3, by rw [hlm], by rw [hlm]; exact Kd.R_lower (Kd.R_mono hR3 (fun q hq => Nat.le_trans hsz hq)) hsz⟩ h4
      have HF := hid hfin
      clear hfin hR3
      refine hK _ _ _ (fun _ h => h) ⟨(hr.chg c3').cell, (hm.chg c3').cell⟩ ?_
      clear hK K
      apply plan_take rfl rfl
      case hy => (intro w' hS; clear hS; go_simp; try exact rfl)
      go_simp
      refine plan_done ?_
      go_wp2_with fail
      go_ret
      exact HF.out
    · have ho2 : o = .error 40 := by rw [ho]; unfold oNext; rw [if_neg hn]
      refine plan_run_on rfl rfl (fun K hK => ?_)
      go_simp
      refine (next_none (n := m) h2 (by omega)).mono ?_
      rintro e w2 ⟨rfl, rfl⟩
      exact ⟨rfl, Ends.bad (by first | exact ho2 | (unfold oNext; rw [if_neg hn])) c1' h2⟩
  · have ho := HO.out
    rw [h1] at ho
    exact ⟨rfl, Ends.bad ho c1' h2⟩

/-! ### As many as were told -/
def oTimes {α : Type} (f : List Int → Out α) : Nat → List Int → Out (List α)
  | 0, b => .ok ([], b)
  | k + 1, b => match oTimes f k b with
    | .error e => .error e
    | .ok (l, r) => match f r with
      | .error e => .error e
      | .ok (v, r') => .ok (l ++ [v], r')
def oText (long : Int) (b : List Int) : Out ByteArray := match oRaw long b with
  | .ok (v, r) => .ok (strOfNums v, r)
  | .error e => .error e
theorem info_str : (Tryz.prog.info? 9).map (fun i => (i.zero, i.size, i.bytes)) = some (some (.string ⟨#[]⟩), 1, 16) := by kernel_rfl
end Go.Proofs.YticogmpafehomaaGreatDoor

set_option linter.unusedVariables false
set_option linter.unusedSimpArgs false
namespace Go.Proofs.YticogmpafehomaaGreatDoor
open Go.RowKit Go.Proofs.YticogmpafehomaaGreatDoorW.PrintWords

theorem RawQ.far {B : Nat} {v : List Int} {w : World} {u : Value} (h : RawQ B v w u) {j : Nat} (hj : j < B) (x : Value) : RawQ B v (w.setCell ⟨j, 0, none⟩ x) u := by
  obtain ⟨A, c, rfl, hR⟩ := h
  exact ⟨A, c, rfl, Kd.R_step hR (fun k hk _ => Below.heap_setCell w ⟨j, 0, none⟩ x k (fun e => by dsimp only at e; omega))⟩
theorem RawQ.lower {B B' : Nat} {v : List Int} {w : World} {u : Value} (h : RawQ B v w u) (hb : B' ≤ B) : RawQ B' v w u := by
  obtain ⟨A, c, rfl, hR⟩ := h
  exact ⟨A, c, rfl, Kd.R_lower (Kd.R_mono hR (fun q hq => Nat.le_trans hb hq)) hb⟩
theorem mRaw_any {w : World} {ok : Nat → Prop} {p : Nat} {s : St} (most : Int) (h : PSt w ok p s) (hok : ∀ k, ok k → k < w.heap.size) :
  Calls Tryz.prog 70 #[.pointer (some ⟨p, 0, none⟩), .int .i64 most] w (Took ok p w s (oRaw most s.b) [] (RawQ w.heap.size)) := by
  obtain ⟨b, hp, hb⟩ := h
  have hlt := hp.lt
  have hbx : Below w.heap.size w ((w.alloc (.cells #[.pointer (some ⟨p, 0, none⟩)] 82)).alloc (.cells #[.int .i64 most] 3)) := below_alloc (below_alloc (Below.refl _ _) _) _
  have hsz : ((w.alloc (.cells #[.pointer (some ⟨p, 0, none⟩)] 82)).alloc (.cells #[.int .i64 most] 3)).heap.size = w.heap.size + 2 := by simp
  have hp1 := hp.below hbx
  have hcell : ((w.alloc (.cells #[.pointer (some ⟨p, 0, none⟩)] 82)).alloc (.cells #[.int .i64 most] 3)).cell? ⟨w.heap.size, 0, none⟩ = some (.pointer (some ⟨p, 0, none⟩)) := by go_simp
  have hcell1 : ((w.alloc (.cells #[.pointer (some ⟨p, 0, none⟩)] 82)).alloc (.cells #[.int .i64 most] 3)).cell? ⟨w.heap.size + 1, 0, none⟩ = some (.int .i64 most) := by go_simp
  have hmf := make_func
  have g : Calls Tryz.prog 113 #[.pointer (some ⟨p, 0, none⟩), .func (.func 114) #[] #[.pointer (some ⟨w.heap.size, 0, none⟩), .pointer (some ⟨w.heap.size + 1, 0, none⟩)]] ((w.alloc (.cells #[.pointer (some ⟨p, 0, none⟩)] 82)).alloc (.cells #[.int .i64 most] 3)) (Took ok p ((w.alloc (.cells #[.pointer (some ⟨p, 0, none⟩)] 82)).alloc (.cells #[.int .i64 most] 3)) s (oRaw most s.b) [] (RawQ w.heap.size)) := by
    by_cases he : s.e = 0
    · obtain rfl := hb he
      rw [he] at hp hp1
      have hK : ∀ w1, Below ((w.alloc (.cells #[.pointer (some ⟨p, 0, none⟩)] 82)).alloc (.cells #[.int .i64 most] 3)).heap.size ((w.alloc (.cells #[.pointer (some ⟨p, 0, none⟩)] 82)).alloc (.cells #[.int .i64 most] 3)) w1 → ((w.alloc (.cells #[.pointer (some ⟨p, 0, none⟩)] 82)).alloc (.cells #[.int .i64 most] 3)).heap.size + 2 ≤ w1.heap.size → Calls Tryz.prog 114 #[.pointer (some ⟨w.heap.size, 0, none⟩), .pointer (some ⟨w.heap.size + 1, 0, none⟩)] w1 (Ends ok p w1 (oRaw most s.b) (RawQ (((w.alloc (.cells #[.pointer (some ⟨p, 0, none⟩)] 82)).alloc (.cells #[.int .i64 most] 3)).heap.size + 2))) := by
        intro w1 hb1 hb2
        exact raw_in (B := ((w.alloc (.cells #[.pointer (some ⟨p, 0, none⟩)] 82)).alloc (.cells #[.int .i64 most] 3)).heap.size + 2) (hp1.below hb1) ⟨(hb1.cell (p := ⟨w.heap.size, 0, none⟩) (by simp <;> omega)).trans hcell, by omega⟩ ⟨(hb1.cell (p := ⟨w.heap.size + 1, 0, none⟩) (by simp <;> omega)).trans hcell1, by omega⟩ hb2 (by omega)
      have g := guard_raw (K := 114) (o := oRaw most s.b) (Q := RawQ (((w.alloc (.cells #[.pointer (some ⟨p, 0, none⟩)] 82)).alloc (.cells #[.int .i64 most] 3)).heap.size + 2)) (cap := #[.pointer (some ⟨w.heap.size, 0, none⟩), .pointer (some ⟨w.heap.size + 1, 0, none⟩)]) hp1 (fun k hk => by have := hok k hk; omega) (fun v w1 u hq => by
        obtain ⟨A, c, rfl, _⟩ := hq
        exact ⟨(A, v.length, c), rfl⟩) (fun _ _ _ _ _ hq hj => hq.far hj _) (Go.Proofs.YticogmpafehomaaGreatDoorW.PrintLast.enters_ Tryz.func114 (by kernel_rfl) (by kernel_rfl)) hK
      refine g.mono fun e w' h => ?_
      obtain ⟨u, he2, hq, hP, hC⟩ := h.ended_ (z := []) he ⟨none, 0, rfl, Kd.R_nil _ _ _ _ _⟩ (errs_raw most _)
      exact ⟨u, he2, hq.lower (by omega), hP, hC⟩
    · refine (skip_raw hp1 he).mono ?_
      rintro e w' ⟨rfl, hbb⟩
      exact Took.skip ⟨b, hp1, fun h0 => absurd h0 he⟩ he ⟨none, 0, rfl, Kd.R_nil _ _ _ _ _⟩ hbb
  generalize oRaw most s.b = o at g
  clear hcell hcell1 hp1 hp hb hsz
  go_enter Tryz.func70, Tryz.ntmps70
  go_wp2_with fail
  refine g.mono ?_
  rintro e w1 ⟨u, rfl, hq, hP, hC⟩
  have hC2 : Chg (fun k => k = p) w w1 := (Chg.of_below hbx _).then_ hC (fun _ h => .inl h)
  have HF := hid (And.intro hq (And.intro hP hC2))
  obtain ⟨A, c, rfl, _⟩ := hq
  clear hP hC hC2 g hbx
  go_wp2
  go_ret
  exact ⟨_, rfl, HF.out⟩
theorem took_text (s : St) (most : Int) : s.took (oText most s.b) = s.took (oRaw most s.b) ∧ s.out (oText most s.b) (strOfNums []) = strOfNums (s.out (oRaw most s.b) []) := by
  unfold St.took St.out oText
  by_cases he : s.e = 0
  · simp only [he, if_true]
    cases oRaw most s.b with
    | error x => exact ⟨rfl, rfl⟩
    | ok q => exact ⟨rfl, rfl⟩
  · simp only [he, if_false]
    exact ⟨trivial, trivial⟩
theorem mText_any {w : World} {ok : Nat → Prop} {p : Nat} {s : St} (most : Int) (h : PSt w ok p s) (hok : ∀ k, ok k → k < w.heap.size) :
  Calls Tryz.prog 69 #[.pointer (some ⟨p, 0, none⟩), .int .i64 most] w (Took ok p w s (oText most s.b) (strOfNums []) fun v _ u => u = .string v) := by
  have ht := took_text s most
  generalize strOfNums [] = z at ht ⊢
  have HT := hid ht
  clear ht
  go_enter Tryz.func69, Tryz.ntmps69
  go_wp2_with fail
  refine (mRaw_any most h hok).mono ?_
  rintro e w1 ⟨u, rfl, ⟨A, c, rfl, hR⟩, hP, hC⟩
  obtain ⟨A2, c2, he2, _, hK⟩ := Kd.R_reads hR
  injection he2 with e1 e2 e3
  subst e1
  subst e3
  have hcv := conv_str (c := c) hK
  have HF := hid (And.intro hP hC)
  clear hP hC hR hK
  rw [← HT.out.2] at hcv
  rw [← HT.out.1] at HF
  obtain ⟨y, hy⟩ : ∃ y, s.out (oText most s.b) z = y := ⟨_, rfl⟩
  rw [hy] at hcv
  go_wp2
  go_ret
  exact ⟨_, rfl, by rw [hy]; rfl, HF.out⟩
end Go.Proofs.YticogmpafehomaaGreatDoor

set_option linter.unusedVariables false
set_option linter.unusedSimpArgs false
namespace Go.Proofs.YticogmpafehomaaGreatDoor
open Go.RowKit Go.Proofs.YticogmpafehomaaGreatDoorW.PrintWords

def St.left (s : St) : Int := if s.e = 0 then s.b.length else 0
def St.done (s : St) : Int := if s.e = 0 ∧ 0 < s.b.length then 41 else s.e
theorem left_any {w : World} {ok : Nat → Prop} {p : Nat} {s : St} (h : PSt w ok p s) :
  Calls Tryz.prog 116 #[.pointer (some ⟨p, 0, none⟩)] w fun e w' => e = .returned (.int .i64 s.left) ∧ w = w' := by
  obtain ⟨b, hp, hb⟩ := h
  obtain ⟨_, _, A, c, hblk, hr, h1, h2⟩ := hp
  have c0 := cell_of_row w p 0 _ _ _ hblk
  have c1 := cell_of_row w p 1 _ _ _ hblk
  simp at c0 c1
  clear hblk
  by_cases he : s.e = 0
  · obtain rfl := hb he
    have hl : s.left = s.b.length := by simp only [St.left, he, if_true]
    rw [hl]
    rw [he] at c1
    go_enter Tryz.func116, Tryz.ntmps116
    go_wp2
    go_ret
    exact ⟨rfl, rfl⟩
  · have hl : s.left = 0 := by simp only [St.left, he, if_false]
    rw [hl]
    go_enter Tryz.func116, Tryz.ntmps116
    go_wp2
    go_ret
    exact ⟨rfl, rfl⟩
theorem errs_any {w : World} {ok : Nat → Prop} {p : Nat} {s : St} (h : PSt w ok p s) :
  Calls Tryz.prog 117 #[.pointer (some ⟨p, 0, none⟩)] w fun e w' => e = .returned (.int .i64 s.e) ∧ w = w' := by
  obtain ⟨b, hp, hb⟩ := h
  exact error_any hp
theorem done_any {w : World} {ok : Nat → Prop} {p : Nat} {s : St} (h : PSt w ok p s) :
  Calls Tryz.prog 71 #[.pointer (some ⟨p, 0, none⟩)] w fun e w' => e = .returned (.int .i64 s.done) ∧ w = w' := by
  have h0 := left_any h
  have h1 := errs_any h
  by_cases hl : 0 < s.left
  · have hd : s.done = 41 := by
      unfold St.left at hl
      split at hl
      · rename_i he
        unfold St.done
        rw [if_pos ⟨he, by omega⟩]
      · omega
    rw [hd]
    go_enter Tryz.func71, Tryz.ntmps71
    go_wp2_with fail
    refine h0.mono ?_
    rintro e w1 ⟨rfl, rfl⟩
    go_wp2
    go_ret
    exact ⟨rfl, rfl⟩
  · have hd : s.done = s.e := by
      unfold St.done
      rw [if_neg]
      rintro ⟨he, hp⟩
      unfold St.left at hl
      rw [if_pos he] at hl
      omega
    rw [hd]
    go_enter Tryz.func71, Tryz.ntmps71
    go_wp2_with fail
    refine h0.mono ?_
    rintro e w1 ⟨rfl, rfl⟩
    go_wp2_with fail
    refine h1.mono ?_
    rintro e w1 ⟨rfl, rfl⟩
    go_wp2
    go_ret
    exact ⟨rfl, rfl⟩
theorem read_any {w : World} {A : Option Addr} {c : Nat} {xs : List Int} (hC : KB.C w A xs.length xs) (hX : Bytes xs) (hl : xs.length ≤ 140737488351232) :
  Calls Tryz.prog 44 #[.slice A xs.length c] w fun e w' => ∃ p, e = .returned (.pointer (some ⟨p, 0, none⟩)) ∧ PSt w' (fun k => w.heap.size ≤ k ∧ k < w'.heap.size) p ⟨xs, 0⟩ ∧ Below w.heap.size w w' := by
  have hcl := clone_any (c := c) hC hl
  go_enter Tryz.func44, Tryz.ntmps44
  go_wp2_with fail
  refine hcl.mono ?_
  rintro e w1 ⟨A1, c1, rfl, hR, hB⟩
  have hsz := hB.size
  obtain ⟨A2, c2, he, hle, _⟩ := Kd.R_reads hR
  injection he with e1 _ e3
  subst e1
  subst e3
  have hown := R_own1 hR
  have hcap : c1 ≤ 9223372036854775807 := by
    rcases hown.2 with ⟨h0, _⟩ | ⟨g', cap', cur, h0, _, _, _, hm, _, _⟩
    · injection h0 with _ _ h3; omega
    · injection h0 with _ _ h3
      have : maxLen = 9223372036854775807 := rfl
      omega
  have hR2 : KB.R 5 w1 w.heap.size (fun k => w.heap.size ≤ k ∧ k < w1.heap.size) (.slice A1 xs.length c1) xs := Rown hown (fun i hi => ⟨own_base hown i hi, own_lt hown i hi⟩)
  have hF := Kd.F_step (W1 := w1.alloc (.cells #[.slice A1 xs.length c1, .int .i64 0] 152)) (Kd.R_F hR2) (fun k _ hk => Below.heap_alloc _ _ _ hk)
  have hfin : PSt (w1.alloc (.cells #[.slice A1 xs.length c1, .int .i64 0] 152)) (fun k => w.heap.size ≤ k ∧ k < (w1.alloc (.cells #[.slice A1 xs.length c1, .int .i64 0] 152)).heap.size) w1.heap.size ⟨xs, 0⟩ :=
    ⟨xs, ⟨⟨hsz, by simp⟩, hX, A1, c1, heap_alloc_new w1 _, Kd.F_mono hF (fun k hk => ⟨⟨hk.1, by simp; omega⟩, by omega⟩), hle, hcap⟩, fun _ => rfl⟩
  have hBn : Below w.heap.size w (w1.alloc (.cells #[.slice A1 xs.length c1, .int .i64 0] 152)) := hB.alloc hsz _
  have HF := hid (And.intro hfin hBn)
  clear hfin hBn hR hF hown
  go_wp2
  go_ret
  exact ⟨_, rfl, HF.out⟩
end Go.Proofs.YticogmpafehomaaGreatDoor

set_option linter.unusedVariables false
set_option linter.unusedSimpArgs false
namespace Go.Proofs.YticogmpafehomaaGreatDoor
open Go.RowKit Go.Proofs.YticogmpafehomaaGreatDoorW.PrintWords Go.Proofs.YticogmpafehomaaGreatDoorW.PrintMore

def mostN : Int := 9223372036854775807
/-- A manifest: Number, Gen, Half. -/
structure MM where
  N : Int
  G : Int
  K : Int
def MM.ok (m : MM) : Prop := 1 ≤ m.N ∧ m.N ≤ mostN ∧ 1 ≤ m.G ∧ m.G ≤ mostN ∧ 0 ≤ m.K ∧ m.K ≤ 1
instance (m : MM) : Decidable m.ok := by unfold MM.ok; infer_instance
def packB (m : MM) : List Int := [102, 109] ++ (be m.N 8 ++ (be m.G 8 ++ (m.K :: List.replicate 45 0)))
/-- What eighteen bytes behind the first two say. -/
def manB (b : List Int) : MM := ⟨numAt b 2 8, numAt b 10 8, b.getD 18 0⟩
def parseM (b : List Int) (i : Int) : Option MM := if b.length = 64 ∧ (manB b).ok ∧ b = packB (manB b) ∧ i = (manB b).N % 2 then some (manB b) else none
def better (m : MM) : Option MM → MM
  | some x => if m.N < x.N then x else m
  | none => m
/-- The manifest that counts. -/
def pickM (D : DM) : MM := better (better ⟨0, 0, 0⟩ (parseM (D.blk 0) 0)) (parseM (D.blk 1) 1)
def gotM (g x : Int) : Int := if x ≤ mostN then max g x else g
def genAt (D : DM) (g : Int) (i : Nat) : Int := if i < 2 then ((parseM (D.blk i) i).map (fun x => max g x.G)).getD g else gotM (gotM g (headR (D.blk i)).gen) (bodyV (D.blk i)).1
def genTo (D : DM) : Nat → Int
  | 0 => 0
  | i + 1 => genAt D (genTo D i) i
/-- The greatest generation. -/
def stG (D : DM) : Int := genTo D D.n
def sizeM (D : DM) : Nat := (D.n - 2) / 2
def baseM (D : DM) (K : Int) : Nat := 2 + K.toNat * sizeM D
def keyedB (k : ByteArray) : Prop := k.size ≠ 0 ∧ k.size ≤ 40
instance (k : ByteArray) : Decidable (keyedB k) := by unfold keyedB; infer_instance
def needK (k : ByteArray) (n : Int) : Int := if keyedB k ∧ 0 ≤ n ∧ n ≤ 131072 then need (8 + k.size + n) else 0
def blocksE (E : Ent) : Int := (E.map fun x => needK x.1 x.2.length).sum
/-- A record's bytes: of an entry; of a key that goes. -/
def recB (k : ByteArray) (v : List Int) : List Int := rawB (bytesOf k) ++ rawB v
/-- A record, done again. -/
def stepE (E : Ent) (kind : Int) (bs : List Int) : Option Ent :=
  let s0 : St := ⟨bs, 0⟩
  let k := s0.out (oText 40 bs) (strOfNums [])
  let s1 := s0.took (oText 40 bs)
  if kind = 1 then
    if (s1.took (oRaw 131072 s1.b)).done = 0 ∧ keyedB k then some (putE k (s1.out (oRaw 131072 s1.b) []) E) else none
  else if kind = 2 then
    if s1.done = 0 ∧ keyedB k then some (delE k E) else none
  else none
def openE : List SR → Ent → Option Ent
  | [], E => some E
  | r :: l, E => (stepE E r.kind r.bytes).bind (openE l)
/-- Append. -/
def hputF (D : DM) (H : HM) (kind : Int) (bs : List Int) : Int × DM × HM :=
  if hputC H kind bs.length = 0 then ((D.sealW H.base (hputR H kind bs)).2, (D.sealW H.base (hputR H kind bs)).1, hputH D H kind bs) else (hputC H kind bs.length, D, H)
/-- All entries, one behind the other. -/
def putsF : DM → HM → Ent → Int × DM × HM
  | D, H, [] => (0, D, H)
  | D, H, x :: l => if (hputF D H 1 (recB x.1 x.2)).1 = 0 then putsF (hputF D H 1 (recB x.1 x.2)).2.1 (hputF D H 1 (recB x.1 x.2)).2.2 l else hputF D H 1 (recB x.1 x.2)
/-- A store: its disk, its manifest, its log, its entries; is it dead? -/
structure SM where
  D : DM
  m : MM
  H : HM
  E : Ent
  dead : Bool
def SM.next (S : SM) : MM := ⟨S.m.N + 1, stG S.D + 1, 1 - S.m.K⟩
def log0 (D : DM) (m : MM) : HM := ⟨(baseM D m.K : Int), (sizeM D : Int), m.G, 0, 0⟩
/-- flip. -/
def flipF (D : DM) (m : MM) : Int × DM := (D.writeE (m.N % 2) (packB m), D.writeD (m.N % 2) (packB m))
def compactF (S : SM) (F : Ent) : Int × SM :=
  if (sizeM S.D : Int) < blocksE F then (63, S)
  else if S.D.gone = true then (61, { S with dead := true })
  else if S.m.N = mostN ∨ stG S.D = mostN then (62, S)
  else if (putsF S.D (log0 S.D S.next) F).1 = 0 then
    if (flipF (putsF S.D (log0 S.D S.next) F).2.1 S.next).1 = 0 then (0, ⟨(flipF (putsF S.D (log0 S.D S.next) F).2.1 S.next).2, S.next, (putsF S.D (log0 S.D S.next) F).2.2, F, S.dead⟩)
    else ((flipF (putsF S.D (log0 S.D S.next) F).2.1 S.next).1, { S with D := (flipF (putsF S.D (log0 S.D S.next) F).2.1 S.next).2, dead := true })
  else ((putsF S.D (log0 S.D S.next) F).1, { S with D := (putsF S.D (log0 S.D S.next) F).2.1, dead := true })
def changeF (S : SM) (kind : Int) (bs : List Int) (F : Ent) : Int × SM :=
  if fitsB S.H bs.length = true then
    if (hputF S.D S.H kind bs).1 = 0 then (0, { S with D := (hputF S.D S.H kind bs).2.1, H := (hputF S.D S.H kind bs).2.2, E := F })
    else ((hputF S.D S.H kind bs).1, { S with D := (hputF S.D S.H kind bs).2.1, H := (hputF S.D S.H kind bs).2.2, dead := true })
  else compactF S F
def putF (S : SM) (k : ByteArray) (v : List Int) : Int × SM :=
  if S.dead = true then (62, S)
  else if ¬ keyedB k then (1, S)
  else if (131072 : Int) - 8 - k.size < v.length then (3, S)
  else if look S.E k = some v then (0, S)
  else changeF S 1 (recB k v) (putE k v S.E)
def delF (S : SM) (k : ByteArray) : Int × SM :=
  if S.dead = true then (62, S)
  else if ¬ keyedB k then (1, S)
  else if look S.E k = none then (0, S)
  else changeF S 2 (rawB (bytesOf k)) (delE k S.E)
/-- Format: its error; the store. -/
def formatF (D : DM) : Int × DM × Option SM :=
  if D.gone = true then (61, D, none)
  else if (pickM D).N = mostN ∨ stG D = mostN then (62, D, none)
  else if (flipF D ⟨(pickM D).N + 1, stG D + 1, 0⟩).1 = 0 then
    (0, (flipF D ⟨(pickM D).N + 1, stG D + 1, 0⟩).2, some ⟨(flipF D ⟨(pickM D).N + 1, stG D + 1, 0⟩).2, ⟨(pickM D).N + 1, stG D + 1, 0⟩, log0 D ⟨(pickM D).N + 1, stG D + 1, 0⟩, [], false⟩)
  else ((flipF D ⟨(pickM D).N + 1, stG D + 1, 0⟩).1, (flipF D ⟨(pickM D).N + 1, stG D + 1, 0⟩).2, none)
/-- The log that a manifest tells of. -/
def openR (D : DM) : List SR := recsM D (baseM D (pickM D).K) (sizeM D) (pickM D).G
def openF (D : DM) : Int × Option SM :=
  if D.gone = true then (61, none)
  else if (pickM D).N = 0 then (62, none)
  else match openE (openR D) [] with
    | some E => (0, some ⟨D, pickM D, ⟨(baseM D (pickM D).K : Int), (sizeM D : Int), (pickM D).G, (tailOf (openR D) : Int), ((openR D).length : Int)⟩, E, false⟩)
    | none => (62, none)
/-- What holds of a store. -/
structure SM.wf (S : SM) : Prop where
  d : S.D.wf
  m : S.m.ok
  base : S.H.base = (baseM S.D S.m.K : Int)
  size : S.H.size = (sizeM S.D : Int)
  gen : S.H.gen = S.m.G
  n0 : 0 ≤ S.H.n
  nt : S.H.n ≤ S.H.tail
  ts : S.H.tail ≤ S.H.size
  len : (S.E.length : Int) ≤ S.H.n
  sorted : SortedE S.E
  ent : ∀ x ∈ S.E, keyedB x.1 ∧ Bytes x.2 ∧ x.2.length ≤ 131072
end Go.Proofs.YticogmpafehomaaGreatDoor

set_option linter.unusedVariables false
set_option linter.unusedSimpArgs false
namespace Go.Proofs.YticogmpafehomaaGreatDoor
open Go.RowKit Go.Proofs.YticogmpafehomaaGreatDoorW.PrintWords Go.Proofs.YticogmpafehomaaGreatDoorW.PrintMore

theorem pack_len (m : MM) : (packB m).length = 64 := by simp [packB, be_length]
theorem pack_drop2 (m : MM) : (packB m).drop 2 = be m.N 8 ++ (be m.G 8 ++ (m.K :: List.replicate 45 0)) := rfl
theorem pack_drop10 (m : MM) : (packB m).drop 10 = be m.G 8 ++ (m.K :: List.replicate 45 0) := by
  rw [show (10 : Nat) = 2 + 8 from rfl, ← List.drop_drop, pack_drop2, drop_app (be_length _ _)]
theorem pack_drop18 (m : MM) : (packB m).drop 18 = m.K :: List.replicate 45 0 := by
  rw [show (18 : Nat) = 10 + 8 from rfl, ← List.drop_drop, pack_drop10, drop_app (be_length _ _)]
theorem pack_man {m : MM} (h : m.ok) : manB (packB m) = m := by
  obtain ⟨h1, h2, h3, h4, h5, h6⟩ := h
  unfold mostN at h2 h4
  have e1 : numAt (packB m) 2 8 = m.N := by
    unfold numAt
    rw [pack_drop2, take_app (be_length _ _)]
    exact val_be_lt (by omega) (by rw [pow8]; omega)
  have e2 : numAt (packB m) 10 8 = m.G := by
    unfold numAt
    rw [pack_drop10, take_app (be_length _ _)]
    exact val_be_lt (by omega) (by rw [pow8]; omega)
  have e3 : (packB m).getD 18 0 = m.K := by
    have h2 : ((packB m).drop 18)[0]? = some m.K := by rw [pack_drop18]; rfl
    rw [List.getElem?_drop] at h2
    rw [List.getD_eq_getElem?_getD, show (18 : Nat) = 18 + 0 from rfl, h2]; rfl
  unfold manB
  rw [e1, e2, e3]
theorem pack_bytes {m : MM} (h : m.ok) : Bytes (packB m) := by
  obtain ⟨h1, h2, h3, h4, h5, h6⟩ := h
  unfold packB
  refine Bytes.append (fun x hx => by simp at hx; omega) (Bytes.append (be_bytes _ _) (Bytes.append (be_bytes _ _) ?_))
  intro x hx
  rcases List.mem_cons.1 hx with e | e
  · omega
  · rw [List.eq_of_mem_replicate e]; omega
theorem parse_pack {m : MM} (h : m.ok) : parseM (packB m) (m.N % 2) = some m := by
  unfold parseM
  rw [pack_man h, if_pos ⟨pack_len m, h, rfl, rfl⟩]
theorem parse_ok {b : List Int} {i : Int} {m : MM} (h : parseM b i = some m) : m.ok ∧ b = packB m ∧ i = m.N % 2 := by
  unfold parseM at h
  split at h
  · rename_i hc
    injection h with h
    subst h
    exact hc.2
  · cases h
theorem better_none (m : MM) : better m none = m := rfl
theorem better_some (m x : MM) : better m (some x) = if m.N < x.N then x else m := rfl
theorem better_zero {x : MM} (h : x.ok) : better ⟨0, 0, 0⟩ (some x) = x := by
  rw [better_some]
  exact if_pos (show (0 : Int) < x.N by have := h.1; omega)
/-- Which manifest counts. -/
theorem pick_ok (D : DM) : pickM D = ⟨0, 0, 0⟩ ∨ ((pickM D).ok ∧ ((parseM (D.blk 0) 0 = some (pickM D)) ∨ (parseM (D.blk 1) 1 = some (pickM D)))) := by
  unfold pickM
  cases h0 : parseM (D.blk 0) 0 with
  | none =>
    rw [better_none]
    cases h1 : parseM (D.blk 1) 1 with
    | none => exact .inl rfl
    | some y =>
      have hy := (parse_ok h1).1
      rw [better_zero hy]
      exact .inr ⟨hy, .inr rfl⟩
  | some x =>
    have hx := (parse_ok h0).1
    rw [better_zero hx]
    cases h1 : parseM (D.blk 1) 1 with
    | none => exact .inr ⟨hx, .inl rfl⟩
    | some y =>
      have hy := (parse_ok h1).1
      rw [better_some]
      split
      · exact .inr ⟨hy, .inr rfl⟩
      · exact .inr ⟨hx, .inl rfl⟩
/-- Neither has a greater Number. -/
theorem pick_max (D : DM) {x : MM} (h : parseM (D.blk 0) 0 = some x ∨ parseM (D.blk 1) 1 = some x) : x.N ≤ (pickM D).N := by
  unfold pickM
  rcases h with h | h
  · rw [h, better_zero (parse_ok h).1]
    cases h1 : parseM (D.blk 1) 1 with
    | none => exact Int.le_refl _
    | some y => rw [better_some]; split <;> omega
  · rw [h, better_some]
    split <;> omega
theorem pick_N (D : DM) : 0 ≤ (pickM D).N ∧ (pickM D).N ≤ mostN := by
  rcases pick_ok D with h | h
  · rw [h]; simp [mostN]
  · have := h.1.1; have := h.1.2.1; omega
theorem genAt_ge (D : DM) (g : Int) (i : Nat) : g ≤ genAt D g i := by
  unfold genAt gotM
  split
  · cases parseM (D.blk i) i <;> simp [Option.map, Option.getD]; omega
  · split <;> split <;> omega
theorem genAt_le (D : DM) {g : Int} (h : g ≤ mostN) (i : Nat) : genAt D g i ≤ mostN := by
  unfold genAt gotM
  split
  · cases hp : parseM (D.blk i) i with
    | none => exact h
    | some x => have := (parse_ok hp).1.2.2.2.1; simp [Option.map, Option.getD]; omega
  · split <;> split <;> omega
theorem genTo_bnd (D : DM) : ∀ i, 0 ≤ genTo D i ∧ genTo D i ≤ mostN
  | 0 => by simp [genTo, mostN]
  | i + 1 => by
    have h := genTo_bnd D i
    simp only [genTo]
    exact ⟨Int.le_trans h.1 (genAt_ge D _ i), genAt_le D h.2 i⟩
theorem stG_bnd (D : DM) : 0 ≤ stG D ∧ stG D ≤ mostN := genTo_bnd D _
end Go.Proofs.YticogmpafehomaaGreatDoor

set_option linter.unusedVariables false
set_option linter.unusedSimpArgs false
namespace Go.Proofs.YticogmpafehomaaGreatDoor
open Go.RowKit Go.Proofs.YticogmpafehomaaGreatDoorW.PrintWords Go.Proofs.YticogmpafehomaaGreatDoorW.PrintMore

theorem int_be (x : Int) (hx : 0 ≤ x ∧ x < 2147483648) (rest : List Int) : oInt (be x 4 ++ rest) = .ok (x, rest) := by
  unfold oInt oNum
  rw [if_pos (by rw [List.length_append, be_length]; omega), take_app (be_length _ _), drop_app (be_length _ _), val_be_lt hx.1 (by rw [pow4]; omega)]
  dsimp only
  rw [if_neg (by omega)]
theorem raw_back (most : Int) (xs rest : List Int) (h : (xs.length : Int) ≤ most) (hl : xs.length ≤ 2147483647) : oRaw most (rawB xs ++ rest) = .ok (xs, rest) := by
  have e : (xs.length : Int) % 2147483648 = xs.length := Int.emod_eq_of_lt (by omega) (by omega)
  unfold oRaw oCount rawB
  rw [e, List.append_assoc, int_be _ (by omega)]
  dsimp only
  rw [if_neg (by omega)]
  dsimp only
  unfold oNext
  rw [Int.toNat_natCast, if_pos (by rw [List.length_append]; omega), take_app rfl, drop_app rfl]
theorem text_back (most : Int) (k : ByteArray) (rest : List Int) (h : (k.size : Int) ≤ most) (hl : k.size ≤ 2147483647) : oText most (rawB (bytesOf k) ++ rest) = .ok (k, rest) := by
  have e : strOfNums (bytesOf k) = k := by
    rcases k with ⟨⟨l⟩⟩
    simp [strOfNums, bytesOf, List.map_map, Function.comp_def]
  unfold oText
  rw [raw_back most _ _ (by rw [bytesOf_length]; exact h) (by rw [bytesOf_length]; exact hl)]
  dsimp only
  rw [e]
theorem step_put {E : Ent} {k : ByteArray} {v : List Int} (hk : keyedB k) (hv : v.length ≤ 131072) : stepE E 1 (recB k v) = some (putE k v E) := by
  have h1 : oText 40 (recB k v) = .ok (k, rawB v) := text_back 40 k (rawB v) (by have := hk.2; omega) (by have := hk.2; omega)
  have h2 : oRaw 131072 (rawB v) = .ok (v, []) := by
    have := raw_back 131072 v [] (by omega) (by omega)
    rwa [List.append_nil] at this
  unfold stepE
  dsimp only
  rw [h1]
  simp only [St.out, St.took, if_true]
  rw [h2]
  simp only [St.done, List.length_nil]
  simp [hk]
theorem step_del {E : Ent} {k : ByteArray} (hk : keyedB k) : stepE E 2 (rawB (bytesOf k)) = some (delE k E) := by
  have h1 : oText 40 (rawB (bytesOf k)) = .ok (k, []) := by
    have := text_back 40 k [] (by have := hk.2; omega) (by have := hk.2; omega)
    rwa [List.append_nil] at this
  unfold stepE
  dsimp only
  rw [h1]
  simp only [St.out, St.took, if_true]
  simp [hk, St.done]
theorem openE_append : ∀ (l m : List SR) (E : Ent), openE (l ++ m) E = (openE l E).bind (openE m)
  | [], m, E => rfl
  | r :: l, m, E => by
    show (stepE E r.kind r.bytes).bind (openE (l ++ m)) = ((stepE E r.kind r.bytes).bind (openE l)).bind (openE m)
    cases stepE E r.kind r.bytes with
    | none => rfl
    | some F => exact openE_append l m F
theorem openE_snoc {l : List SR} {E F G : Ent} {r : SR} (h : openE l E = some F) (hs : stepE F r.kind r.bytes = some G) : openE (l ++ [r]) E = some G := by
  rw [openE_append, h]
  show (stepE F r.kind r.bytes).bind (openE []) = some G
  rw [hs]
  rfl
theorem recB_len (k : ByteArray) (v : List Int) : (recB k v).length = 8 + k.size + v.length := by
  unfold recB
  rw [List.length_append, rawB_length, rawB_length, bytesOf_length]
  omega
theorem rawB_bytes {xs : List Int} (h : Bytes xs) : Bytes (rawB xs) := (be_bytes _ _).append h
theorem bytesOf_bytes (k : ByteArray) : Bytes (bytesOf k) := by
  intro x hx
  unfold bytesOf at hx
  obtain ⟨y, _, rfl⟩ := List.mem_map.1 hx
  have := y.toNat_lt
  omega
theorem recB_bytes {k : ByteArray} {v : List Int} (h : Bytes v) : Bytes (recB k v) := (rawB_bytes (bytesOf_bytes k)).append (rawB_bytes h)
/-! ### Sums of needs -/
theorem needK_nn (k : ByteArray) (n : Int) : 0 ≤ needK k n ∧ needK k n ≤ 65536 := by
  unfold needK
  split
  · exact need_bnd _
  · omega
theorem blocksE_nn : ∀ E : Ent, 0 ≤ blocksE E
  | [] => by simp [blocksE]
  | x :: l => by
    have h1 := blocksE_nn l
    have h2 := needK_nn x.1 x.2.length
    simp only [blocksE, List.map_cons, List.sum_cons] at h1 ⊢
    omega
theorem blocksE_cons (x : ByteArray × List Int) (l : Ent) : blocksE (x :: l) = needK x.1 x.2.length + blocksE l := rfl
theorem blocksE_put (k : ByteArray) (v : List Int) : ∀ E : Ent, blocksE (putE k v E) ≤ blocksE E + needK k v.length
  | [] => by simp [putE, blocksE]
  | (a, u) :: l => by
    have h1 := blocksE_put k v l
    have h2 := needK_nn a u.length
    simp only [putE]
    split
    · rw [blocksE_cons]; dsimp only; omega
    · split
      · rw [blocksE_cons, blocksE_cons]; dsimp only; omega
      · rw [blocksE_cons, blocksE_cons]; dsimp only; omega
theorem blocksE_del (k : ByteArray) : ∀ E : Ent, blocksE (delE k E) ≤ blocksE E
  | [] => Int.le_refl _
  | (a, u) :: l => by
    have h1 := blocksE_del k l
    have h2 := needK_nn a u.length
    unfold delE at h1 ⊢
    rw [List.filter_cons]
    split
    · rw [blocksE_cons, blocksE_cons]; omega
    · rw [blocksE_cons]; dsimp only at h2 ⊢; omega
theorem need_put {k : ByteArray} {v : List Int} (hk : keyedB k) (hv : v.length ≤ 131072) : need (recB k v).length = needK k v.length := by
  unfold needK
  rw [if_pos ⟨hk, by omega, by omega⟩, recB_len]
  push_cast
  rfl
theorem need_pos {n : Int} (h : 0 ≤ n ∧ n ≤ 131072) : 0 < need n := by
  unfold need
  rw [if_neg (by omega)]
  split <;> omega
end Go.Proofs.YticogmpafehomaaGreatDoor

set_option linter.unusedVariables false
set_option linter.unusedSimpArgs false
namespace Go.Proofs.YticogmpafehomaaGreatDoor
open Go.RowKit Go.Proofs.YticogmpafehomaaGreatDoorW.PrintWords Go.Proofs.YticogmpafehomaaGreatDoorW.PrintMore

/-- A new writer. -/
theorem new_writer (w : World) : PWr (w.alloc (.cells #[.slice none 0 0] 108)) (fun k => w.heap.size ≤ k) w.heap.size [] :=
  ⟨.slice none 0 0, ⟨Nat.le_refl _, heap_alloc_new w _, Kd.R_nil _ _ _ _ _⟩⟩
/-- Bytes of a call's own are handed back. -/
def OutB (w w' : World) (e : Ending) (xs : List Int) : Prop := ∃ A c, e = .returned (.slice A xs.length c) ∧ KB.R 5 w' w.heap.size (fun k => w.heap.size ≤ k) (.slice A xs.length c) xs ∧ Below w.heap.size w w'
theorem long_any {w : World} (n : Int) (hn : 0 ≤ n ∧ n < 18446744073709551616) : Calls Tryz.prog 42 #[.int .u64 n] w fun e w' => OutB w w' e (be n 8) := by
  have h0 := new_writer w
  have c0 : Below w.heap.size w (w.alloc (.cells #[.slice none 0 0] 108)) := below_alloc (Below.refl _ _) _
  have hc := wlong_any n hn h0 (by simp)
  rw [List.nil_append] at hc
  clear h0
  go_enter Tryz.func42, Tryz.ntmps42
  go_wp2_with fail
  refine hc.mono ?_
  rintro e w1 ⟨rfl, h1, c1⟩
  have b1 : Below w.heap.size w w1 := c0.trans (c1.below_ (by simp) (fun _ h => h))
  have hb := wbytes_any h1 (by simp [be_length])
  clear h1 c1 hc c0
  go_wp2_with fail
  refine hb.mono ?_
  rintro e w2 ⟨A, c, rfl, hR, hB⟩
  have HF := hid (And.intro (Kd.R_lower (Kd.R_mono hR (fun k hk => Nat.le_trans b1.size hk)) b1.size) (b1.trans (hB.mono b1.size)))
  clear hR hB b1 hb
  go_wp2
  go_ret
  exact ⟨A, c, rfl, HF.out⟩
theorem record_any {w : World} {okb : Nat → Prop} {A : Option Addr} {c : Nat} {v : List Int} (k : ByteArray) (hF : RB w okb A v) (hok : ∀ j, okb j → j < w.heap.size) (hl : k.size + v.length + 64 ≤ 140737488351232) :
    Calls Tryz.prog 60 #[.string k, .slice A v.length c] w fun e w' => OutB w w' e (recB k v) := by
  have h0 := new_writer w
  have c0 : Below w.heap.size w (w.alloc (.cells #[.slice none 0 0] 108)) := below_alloc (Below.refl _ _) _
  have hc := wtext_any k h0.bound (fun _ h => h.2) (by simp; omega)
  rw [List.nil_append] at hc
  clear h0
  go_enter Tryz.func60, Tryz.ntmps60
  go_wp2_with fail
  refine hc.mono ?_
  rintro e w1 ⟨rfl, h1, c1⟩
  have b1 : Below w.heap.size w w1 := c0.trans (c1.below_ (by simp) (fun _ h => h.1))
  have h1 := h1.mono (ok' := fun k => w.heap.size ≤ k) (fun k hk => hk.elim (fun h => h.1) (fun h => by simp at h; omega))
  have hF1 := RB_below hF b1
  have hc2 := wraw_any (c := c) h1 hF1 (fun j hj hj2 => by have := hok j hj; omega) (by rw [rawB_length, bytesOf_length]; omega)
  clear h1 c1 hc c0 hF1
  go_wp2_with fail
  refine hc2.mono ?_
  rintro e w2 ⟨rfl, h2, c2⟩
  have b2 : Below w.heap.size w w2 := b1.trans (c2.below_ b1.size (fun _ h => h))
  have hb := wbytes_any h2 (by have := recB_len k v; unfold recB at this; omega)
  clear h2 c2 hc2 b1
  rw [show rawB (bytesOf k) ++ rawB v = recB k v from rfl] at hb
  go_wp2_with fail
  refine hb.mono ?_
  rintro e w3 ⟨A, c, rfl, hR, hB⟩
  have HF := hid (And.intro (Kd.R_lower (Kd.R_mono hR (fun k hk => Nat.le_trans b2.size hk)) b2.size) (b2.trans (hB.mono b2.size)))
  clear hR hB b2 hb
  go_wp2
  go_ret
  exact ⟨A, c, rfl, HF.out⟩
theorem toL (s : ByteArray) : s.toList = s.data.toList := Go.Lib.toList_data s
theorem not_empty {k : ByteArray} (h : ¬ k.size = 0) : (k.toList == []) = false ∧ k.toList.isEmpty = false := by
  have h2 : ¬ k.toList = [] := by
    rw [toL]
    intro e
    apply h
    have := congrArg List.length e
    simpa using this
  exact ⟨by simpa using h2, by simpa using h2⟩
theorem keyed_any {w : World} (k : ByteArray) : Calls Tryz.prog 51 #[.string k] w fun e w' => e = .returned (.bool (decide (keyedB k))) ∧ w = w' := by
  by_cases h0 : k.size = 0
  · obtain rfl : k = ⟨#[]⟩ := by
      rcases k with ⟨a⟩
      congr
      exact Array.eq_empty_of_size_eq_zero h0
    go_enter Tryz.func51, Tryz.ntmps51
    go_wp2
    go_ret
    exact ⟨by rfl, rfl⟩
  · obtain ⟨h1, h2⟩ := not_empty h0
    rw [show decide (keyedB k) = decide ((k.size : Int) ≤ 40) from by unfold keyedB; apply decide_eq_decide.2; omega]
    go_enter Tryz.func51, Tryz.ntmps51
    go_wp2
    go_ret
    exact ⟨rfl, rfl⟩
set_option maxHeartbeats 1000000 in
theorem needS_any {w : World} (k : ByteArray) (n : Int) (hn : -9223372036854775808 ≤ n ∧ n ≤ 9223372036854775807) : Calls Tryz.prog 15 #[.string k, .int .i64 n] w fun e w' => e = .returned (.int .i64 (needK k n)) ∧ w = w' := by
  have hk := keyed_any (w := w) k
  unfold needK
  by_cases h1 : keyedB k
  · rw [decide_eq_true h1] at hk
    by_cases h2 : n < 0
    · rw [if_neg (by omega)]
      go_enter Tryz.func15, Tryz.ntmps15
      go_wp2_with (go_at_call 51; refine hk.mono ?_; rintro e w' ⟨rfl, rfl⟩)
      go_ret
      exact ⟨rfl, rfl⟩
    · by_cases h3 : 131072 < n
      · rw [if_neg (by omega)]
        go_enter Tryz.func15, Tryz.ntmps15
        go_wp2_with (go_at_call 51; refine hk.mono ?_; rintro e w' ⟨rfl, rfl⟩)
        go_ret
        exact ⟨rfl, rfl⟩
      · rw [if_pos ⟨h1, by omega, by omega⟩]
        have hk2 := h1.2
        have hs : IntKind.i64.wrap (8 + (k.size : Int)) = 8 + k.size := by rw [IntKind.wrap_i64]; omega
        have hs2 : IntKind.i64.wrap (8 + (k.size : Int) + n) = 8 + k.size + n := by rw [IntKind.wrap_i64]; omega
        have hd := need_any (w := w) (8 + k.size + n) (by omega)
        go_enter Tryz.func15, Tryz.ntmps15
        go_wp2_with (first | (go_at_call 51; refine hk.mono ?_; rintro e w' ⟨rfl, rfl⟩) | (go_at_call 52; refine hd.mono ?_; rintro e w' ⟨rfl, rfl⟩))
        go_ret
        exact ⟨rfl, rfl⟩
  · rw [decide_eq_false h1] at hk
    rw [if_neg (fun h => h1 h.1)]
    go_enter Tryz.func15, Tryz.ntmps15
    go_wp2_with (go_at_call 51; refine hk.mono ?_; rintro e w' ⟨rfl, rfl⟩)
    go_ret
    exact ⟨rfl, rfl⟩
theorem size_any {w : World} {ok : Nat → Prop} {p : Nat} {D : DM} (h : PDisk w ok p D) : Calls Tryz.prog 68 #[.pointer (some ⟨p, 0, none⟩)] w fun e w' => e = .returned (.int .i64 (sizeM D)) ∧ w = w' := by
  have hB := blocks_any h
  have h1 := h.1.lo
  have h2 := h.1.hi
  have e1 : IntKind.i64.wrap ((D.n : Int) - 2) = (D.n : Int) - 2 := by rw [IntKind.wrap_i64]; omega
  have e2 : ((D.n : Int) - 2).tdiv 2 = (sizeM D : Int) := by unfold sizeM; rw [Int.tdiv_eq_ediv_of_nonneg (by omega)]; omega
  have e3 : IntKind.i64.wrap (sizeM D : Int) = (sizeM D : Int) := by unfold sizeM; rw [IntKind.wrap_i64]; omega
  go_enter Tryz.func68, Tryz.ntmps68
  go_wp2_with (go_at_call 112; refine hB.mono ?_; rintro e w' ⟨rfl, rfl⟩)
  go_ret
  exact ⟨rfl, rfl⟩
theorem base_any {w : World} {ok : Nat → Prop} {p : Nat} {D : DM} (h : PDisk w ok p D) (K : Int) (hK : 0 ≤ K ∧ K ≤ 1) : Calls Tryz.prog 67 #[.pointer (some ⟨p, 0, none⟩), .int .i64 K] w fun e w' => e = .returned (.int .i64 (baseM D K)) ∧ w = w' := by
  have hB := size_any h
  have h2 := h.1.hi
  have e0 : sizeM D ≤ 4096 := by unfold sizeM; omega
  have e4 : (baseM D K : Int) = 2 + K * sizeM D := by unfold baseM; push_cast; rw [Int.toNat_of_nonneg hK.1]
  have e5 : 0 ≤ K * (sizeM D : Int) ∧ K * (sizeM D : Int) ≤ 4096 := by
    rcases (by omega : K = 0 ∨ K = 1) with rfl | rfl <;> omega
  rw [e4]
  have e1 : IntKind.i64.wrap (K * (sizeM D : Int)) = K * (sizeM D : Int) := by rw [IntKind.wrap_i64]; omega
  have e2 : IntKind.i64.wrap (2 + K * (sizeM D : Int)) = 2 + K * (sizeM D : Int) := by rw [IntKind.wrap_i64]; omega
  clear e4
  go_enter Tryz.func67, Tryz.ntmps67
  go_wp2_with (go_at_call 68; refine hB.mono ?_; rintro e w' ⟨rfl, rfl⟩)
  go_ret
  exact ⟨rfl, rfl⟩
end Go.Proofs.YticogmpafehomaaGreatDoor

set_option linter.unusedVariables false
set_option linter.unusedSimpArgs false
namespace Go.Proofs.YticogmpafehomaaGreatDoor
open Go.RowKit Go.Proofs.YticogmpafehomaaGreatDoorW.PrintWords Go.Proofs.YticogmpafehomaaGreatDoorW.PrintMore

/-- A manifest as a value. -/
def manV (m : MM) : Value := .agg #[.int .u64 m.N, .int .u64 m.G, .int .i64 m.K]
set_option maxHeartbeats 2000000 in
theorem pack_err {w : World} {m : MM} (h : ¬ m.ok) (hN : 0 ≤ m.N) (hG : 0 ≤ m.G) : Calls Tryz.prog 10 #[manV m] w fun e w' => e = .returned (.tuple #[.slice none 0 0, .int .i64 1]) ∧ Below w.heap.size w w' := by
  have hB := below_alloc (Below.refl w.heap.size w) (.cells #[.int .u64 m.N, .int .u64 m.G, .int .i64 m.K] 29)
  unfold manV
  obtain ⟨N, G, K⟩ := m
  dsimp only at *
  unfold MM.ok mostN at h
  dsimp only at h
  have HB := hid hB
  clear hB
  by_cases h1 : N = 0
  · subst h1
    clear h hG
    go_enter Tryz.func10, Tryz.ntmps10
    go_wp2
    go_ret2
    exact ⟨rfl, HB.out⟩
  have k1 : (N == 0) = false := by simpa using h1
  by_cases h2 : 9223372036854775807 < N
  · clear h hG h1
    go_enter Tryz.func10, Tryz.ntmps10
    go_wp2
    go_ret2
    exact ⟨rfl, HB.out⟩
  by_cases h3 : G = 0
  · subst h3
    clear h h1
    go_enter Tryz.func10, Tryz.ntmps10
    go_wp2
    go_ret2
    exact ⟨rfl, HB.out⟩
  have k3 : (G == 0) = false := by simpa using h3
  by_cases h4 : 9223372036854775807 < G
  · clear h hG h1 h3
    go_enter Tryz.func10, Tryz.ntmps10
    go_wp2
    go_ret2
    exact ⟨rfl, HB.out⟩
  by_cases h5 : K < 0
  · clear h h1 h3
    go_enter Tryz.func10, Tryz.ntmps10
    go_wp2
    go_ret2
    exact ⟨rfl, HB.out⟩
  by_cases h6 : 1 < K
  · clear h h1 h3
    go_enter Tryz.func10, Tryz.ntmps10
    go_wp2
    go_ret2
    exact ⟨rfl, HB.out⟩
  omega
theorem make64 : ∀ W : World, (Instr.makeSlice 25 (.int .i64 64) (.int .i64 64)).run Tryz.prog W = .ok (.slice (some ⟨W.heap.size, 0, none⟩) 64 64) (W.alloc (.cells (nums .u8 (fill [])).toArray 5)) := by
  intro W
  have := print_make (P := Tryz.prog) 25 5 .u8 1 Tryz.underlying25 info_u8 (by decide) 64 (by omega) W
  rw [show madeCells #[Value.int .u8 0] 64 = (nums .u8 (fill [])).toArray from by kernel_rfl] at this
  exact this
set_option maxRecDepth 100000 in
set_option maxHeartbeats 4000000 in
theorem pack_any {w : World} {m : MM} (h : m.ok) : Calls Tryz.prog 10 #[manV m] w fun e w' => ∃ g, e = .returned (.tuple #[.slice (some ⟨g, 0, none⟩) 64 64, .int .i64 0]) ∧ w.heap.size ≤ g ∧ BU w' g 5 (packB m) ∧ Below w.heap.size w w' := by
  have hmk := make64
  have hB := below_alloc (below_alloc (Below.refl w.heap.size w) (.cells #[.int .u64 m.N, .int .u64 m.G, .int .i64 m.K] 29)) (.cells (nums .u8 (fill [])).toArray 5)
  have g0 : BU ((w.alloc (.cells #[.int .u64 m.N, .int .u64 m.G, .int .i64 m.K] 29)).alloc (.cells (nums .u8 (fill [])).toArray 5)) (w.alloc (.cells #[.int .u64 m.N, .int .u64 m.G, .int .i64 m.K] 29)).heap.size 5 (fill []) := heap_alloc_new _ _
  have hm0 : ((w.alloc (.cells #[.int .u64 m.N, .int .u64 m.G, .int .i64 m.K] 29)).alloc (.cells (nums .u8 (fill [])).toArray 5)).heap[w.heap.size]? = some (.cells #[.int .u64 m.N, .int .u64 m.G, .int .i64 m.K] 29 (0, 0)) := by
    rw [Below.heap_alloc _ _ _ (by simp)]
    exact heap_alloc_new _ _
  obtain ⟨w1, hcp, g1, c1⟩ := g0.copy_str (P := Tryz.prog) 25 9 3 5 0 64 64 ⟨#[102, 109]⟩ Tryz.underlying25 (by kernel_rfl) (by decide) (by decide)
  have e1 : splice (fill []) 0 (bytesOf ⟨#[102, 109]⟩) = fill [102, 109] := by decide
  rw [e1] at g1
  unfold manV
  obtain ⟨hN1, hN2, hG1, hG2, hK1, hK2⟩ := h
  unfold mostN at hN2 hG2
  have hpk : packB m = [102, 109] ++ be m.N 8 ++ be m.G 8 ++ [m.K] ++ List.replicate 45 0 := by simp [packB]
  rw [hpk]
  obtain ⟨N, G, K⟩ := m
  dsimp only at *
  have b1 : Below w.heap.size w w1 := hB.trans (c1.below_ (B := w.heap.size) hB.size (fun k hk => by simp at hk; omega))
  have hm1 := (c1.block w.heap.size (by simp; omega) (by simp)).trans hm0
  have sz0 : (w.alloc (.cells #[.int .u64 N, .int .u64 G, .int .i64 K] 29)).heap.size = w.heap.size + 1 := World.size_alloc _ _
  rw [sz0] at g1 c1 hcp
  have sz1 : w.heap.size + 2 ≤ w1.heap.size := by have := c1.size; simp at this; omega
  clear c1 g0 hm0 hB e1 hpk
  have k1 : (N == 0) = false := by have : N ≠ 0 := by omega
                                   simpa using this
  have k3 : (G == 0) = false := by have : G ≠ 0 := by omega
                                   simpa using this
  have h2 : ¬ 9223372036854775807 < N := by omega
  have h4 : ¬ 9223372036854775807 < G := by omega
  have h5 : ¬ K < 0 := by omega
  have h6 : ¬ 1 < K := by omega
  go_enter Tryz.func10, Tryz.ntmps10
  go_wp2_with fail
  clear hcp hmk
  have kc := cell_of_row _ _ 0 _ _ _ (show w1.drew.heap[w.heap.size]? = _ from hm1)
  simp at kc
  refine wp_region_plan [] (.take 0 (.take 1 (.take 2 (.take 3 (.run 4 (.run 5 .done)))))) (fun w' => w'.cell? ⟨w.heap.size, 0, none⟩ = some (.int .u64 N)) (by kernel_rfl) (by kernel_rfl) (fun c a d v w h => by cases d <;> exact h) kc ?_
  iterate 4 (apply plan_take rfl rfl; (case hy => (intro w' hS; have s0 := hS; clear hS; go_simp; try exact rfl)); go_simp)
  refine plan_run_on rfl rfl (fun J hJ => ?_)
  go_simp
  refine (long_any (w := w1.drew) N (by omega)).mono ?_
  rintro e w2 ⟨A2, q2, rfl, hR2, hB2⟩
  have b2 : Below w.heap.size w w2 := (below_drew b1).trans (hB2.mono (by simp; omega))
  have g2 := g1.step (w1 := w2) (hB2.block _ (by simp; omega))
  have hm2 := (hB2.block w.heap.size (by simp; omega)).trans hm1
  obtain ⟨w3, hcp, g3, c3⟩ := g2.copy_row (P := Tryz.prog) 25 25 3 5 2 62 62 q2 (Kd.F_now (Kd.R_F hR2)) Tryz.underlying25 (by kernel_rfl) (by rw [fill_length (by simp [be_length]), be_length]; omega)
  have q3 := fill_splice' (p := [102, 109]) (vs := be N 8) (off := 2) (by simp [be_length]) (by simp [be_length])
  rw [List.take_of_length_le (by rw [be_length]; omega), q3] at g3
  rw [be_length] at hcp ⊢
  clear g2 hR2 q3
  refine hJ _ _ _ (fun _ h => h) (by have := cell_of_row _ _ 0 _ _ _ hm2; simpa using this) ?_
  clear hJ J kc
  refine plan_run_on rfl rfl (fun J hJ => ?_)
  go_simp
  have b3 : Below w.heap.size w w3 := b2.trans (c3.below_ (B := w.heap.size) b2.size (fun k hk => by omega))
  have hm3 := (c3.block w.heap.size (by have := hB2.size; simp at this; omega) (by omega)).trans hm2
  have sz3 : w.heap.size + 2 ≤ w3.heap.size := by have := c3.size; have := hB2.size; simp at this; omega
  refine hJ _ _ _ (fun _ h => h) (by have := cell_of_row _ _ 0 _ _ _ hm3; simpa using this) ?_
  clear hJ J hcp
  refine plan_done ?_
  clear hm1 hm2 g1 b1 b2 hB2 c3 sz1
  go_wp2_with fail
  have kc := cell_of_row _ _ 1 _ _ _ (show w3.drew.heap[w.heap.size]? = _ from hm3)
  simp at kc
  refine wp_region_plan [] (.take 0 (.take 1 (.take 2 (.take 3 (.run 4 (.run 5 .done)))))) (fun w' => w'.cell? ⟨w.heap.size, 1, none⟩ = some (.int .u64 G)) (by kernel_rfl) (by kernel_rfl) (fun c a d v w h => by cases d <;> exact h) kc ?_
  iterate 4 (apply plan_take rfl rfl; (case hy => (intro w' hS; have s0 := hS; clear hS; go_simp; try exact rfl)); go_simp)
  refine plan_run_on rfl rfl (fun J hJ => ?_)
  go_simp
  refine (long_any (w := w3.drew) G (by omega)).mono ?_
  rintro e w4 ⟨A4, q4, rfl, hR4, hB4⟩
  have b4 : Below w.heap.size w w4 := (below_drew b3).trans (hB4.mono (by simp; omega))
  have g4 := g3.step (w1 := w4) (hB4.block _ (by simp; omega))
  have hm4 := (hB4.block w.heap.size (by simp; omega)).trans hm3
  obtain ⟨w5, hcp, g5, c5⟩ := g4.copy_row (P := Tryz.prog) 25 25 3 5 10 54 54 q4 (Kd.F_now (Kd.R_F hR4)) Tryz.underlying25 (by kernel_rfl) (by rw [fill_length (by simp [be_length]), be_length]; omega)
  have q5 := fill_splice' (p := [102, 109] ++ be N 8) (vs := be G 8) (off := 10) (by simp [be_length]) (by simp [be_length])
  rw [List.take_of_length_le (by rw [be_length]; omega), q5] at g5
  rw [be_length] at hcp ⊢
  clear g4 hR4 q5
  refine hJ _ _ _ (fun _ h => h) (by have := cell_of_row _ _ 1 _ _ _ hm4; simpa using this) ?_
  clear hJ J kc
  refine plan_run_on rfl rfl (fun J hJ => ?_)
  go_simp
  have b5 : Below w.heap.size w w5 := b4.trans (c5.below_ (B := w.heap.size) b4.size (fun k hk => by omega))
  have hm5 := (c5.block w.heap.size (by have := hB4.size; simp at this; omega) (by omega)).trans hm4
  refine hJ _ _ _ (fun _ h => h) (by have := cell_of_row _ _ 1 _ _ _ hm5; simpa using this) ?_
  clear hJ J hcp
  refine plan_done ?_
  clear hm3 hm4 g3 b3 b4 hB4 c5 sz3
  have kc := cell_of_row _ _ 2 _ _ _ hm5
  simp at kc
  have uk : IntKind.u8.wrap K = K := by rw [IntKind.wrap_u8]; omega
  obtain ⟨z, kz⟩ : ∃ z, w5.cell? ⟨w.heap.size + 1, 18, none⟩ = some (.int .u8 z) := ⟨_, g5.cell (k := 18) (by rw [fill_length (by simp [be_length])]; omega)⟩
  have kf := g5.free 18
  have g6 : BU (w5.setCell ⟨w.heap.size + 1, 18, none⟩ (.int .u8 K)) (w.heap.size + 1) 5 ([102, 109] ++ be N 8 ++ be G 8 ++ [K] ++ List.replicate 45 0) := by
    have := g5.set 18 K
    have q := fill_set (p := [102, 109] ++ be N 8 ++ be G 8) (by simp [be_length]) K
    rw [show ([102, 109] ++ be N 8 ++ be G 8 : List Int).length = 18 from by simp [be_length]] at q
    rw [q] at this
    unfold fill at this
    rwa [show ([102, 109] ++ be N 8 ++ be G 8 ++ [K] : List Int).length = 19 from by simp [be_length]] at this
  have b6 : Below w.heap.size w (w5.setCell ⟨w.heap.size + 1, 18, none⟩ (.int .u8 K)) := b5.setCell (p := ⟨w.heap.size + 1, 18, none⟩) (by simp) _
  have HF := hid (And.intro g6 b6)
  clear g6 b6 g5 b5 hm5
  go_wp2_with fail
  go_ret2
  exact ⟨_, rfl, by omega, HF.out⟩
end Go.Proofs.YticogmpafehomaaGreatDoor

set_option linter.unusedVariables false
set_option linter.unusedSimpArgs false
namespace Go.Proofs.YticogmpafehomaaGreatDoor
open Go.RowKit Go.Proofs.YticogmpafehomaaGreatDoorW.PrintWords Go.Proofs.YticogmpafehomaaGreatDoorW.PrintMore

abbrev W3s (w : World) (n : Nat) (v0 v1 v2 : Value) : World := ((w.setCell ⟨n, 0, none⟩ v0).setCell ⟨n, 1, none⟩ v1).setCell ⟨n, 2, none⟩ v2
theorem set3 {w : World} {n T : Nat} {a0 a1 a2 : Value} (h : w.heap[n]? = some (.cells #[a0, a1, a2] T (0, 0))) (v0 v1 v2 : Value) : (W3s w n v0 v1 v2).heap[n]? = some (.cells #[v0, v1, v2] T (0, 0)) := by
  have h1 := heap_setCell_same w n 0 _ _ v0 h
  have h2 := heap_setCell_same _ n 1 _ _ v1 h1
  have h3 := heap_setCell_same _ n 2 _ _ v2 h2
  exact h3
theorem below3 {B : Nat} {w0 w : World} (h : Below B w0 w) {n : Nat} (hn : B ≤ n) (v0 v1 v2 : Value) : Below B w0 (W3s w n v0 v1 v2) := ((h.setCell (p := ⟨n, 0, none⟩) hn v0).setCell (p := ⟨n, 1, none⟩) hn v1).setCell (p := ⟨n, 2, none⟩) hn v2
/-- What Parse answers. -/
def parseV (o : Option MM) : Value := .tuple #[manV (o.getD ⟨0, 0, 0⟩), .bool o.isSome]
theorem toL_str {xs ys : List Int} (hx : Bytes xs) (hy : Bytes ys) : ((strOfNums xs).toList == (strOfNums ys).toList) = decide (xs = ys) := by
  rw [Bool.eq_iff_iff, beq_iff_eq, decide_eq_true_eq]
  constructor
  · intro hh
    rw [ByteArray.toList_eq, ByteArray.toList_eq] at hh
    exact (str_iff hx hy).1 (by
      cases h1 : strOfNums xs; cases h2 : strOfNums ys
      rw [h1, h2] at hh
      simp only [ByteArray.mk.injEq]
      exact Array.toList_inj.1 hh)
  · rintro rfl; rfl
theorem getD_take {b : List Int} (h : b.length = 64) : val ((((b.drop 2).take 17).drop 16).take 1) = b.getD 18 0 := by
  have e : (((b.drop 2).take 17).drop 16).take 1 = [b[18]'(by omega)] := by
    apply List.ext_getElem?
    intro i
    rcases i with _ | i
    · simp [List.getElem?_take, List.getElem?_drop, h]
    · simp [List.getElem?_take]
  rw [e]
  simp [val, List.getD_eq_getElem?_getD, h]
set_option maxRecDepth 100000 in
set_option maxHeartbeats 4000000 in
theorem parse_any {w : World} {ok : Nat → Prop} {A : Option Addr} {c : Nat} {b : List Int} (h : RB w ok A b) (hb : Bytes b) (hc : b.length ≤ c) (i : Int) (hi : -9223372036854775808 ≤ i ∧ i ≤ 9223372036854775807) :
  Calls Tryz.prog 12 #[.slice A b.length c, .int .i64 i] w fun e w' => e = .returned (parseV (parseM b i)) ∧ Below w.heap.size w w' := by
  have hlm := RB_len h
  have hz := heap_alloc_new w (.cells #[.int .u64 0, .int .u64 0, .int .i64 0] 29)
  have hb0 := below_alloc (Below.refl w.heap.size w) (.cells #[.int .u64 0, .int .u64 0, .int .i64 0] 29)
  by_cases h64 : b.length = 64
  · obtain ⟨a, rfl⟩ := RB_some h (by omega)
    have hx17 : ((b.drop 2).take 17).length = 17 := part_len (by omega)
    have hR0 := part (RB_below h hb0) (i := 2) (n := 17) (by omega)
    have hrd := read_any (A := some (a.add 2)) (c := c - 2) (xs := (b.drop 2).take 17) (Kd.F_now hR0) ((hb.drop 2).take 17) (by omega)
    rw [hx17] at hrd
    rw [h64] at hc ⊢
    have n2 : ¬ c = 2 := by omega
    have i2 : (2 : Int) ≤ (c : Int) := by omega
    have i19 : (19 : Int) ≤ (c : Int) := by omega
    obtain ⟨w0, hw0⟩ : ∃ w0, w.alloc (.cells #[.int .u64 0, .int .u64 0, .int .i64 0] 29) = w0 := ⟨_, rfl⟩
    rw [hw0] at hz hb0 hrd
    have e1 : (⟨(b.drop 2).take 17, 0⟩ : St).out (oNum 8 ((b.drop 2).take 17)) 0 = numAt b 2 8 := by
      unfold St.out oNum numAt
      rw [if_pos rfl, if_pos (by omega), List.take_take]
      rfl
    have t1 : (⟨(b.drop 2).take 17, 0⟩ : St).took (oNum 8 ((b.drop 2).take 17)) = ⟨((b.drop 2).take 17).drop 8, 0⟩ := by
      unfold St.took oNum
      rw [if_pos rfl, if_pos (by omega)]
    have e2 : (⟨((b.drop 2).take 17).drop 8, 0⟩ : St).out (oNum 8 (((b.drop 2).take 17).drop 8)) 0 = numAt b 10 8 := by
      unfold St.out oNum numAt
      rw [if_pos rfl, if_pos (by rw [List.length_drop]; omega), List.drop_take, List.drop_drop, List.take_take]
      rfl
    have t2 : (⟨((b.drop 2).take 17).drop 8, 0⟩ : St).took (oNum 8 (((b.drop 2).take 17).drop 8)) = ⟨((b.drop 2).take 17).drop 16, 0⟩ := by
      unfold St.took oNum
      rw [if_pos rfl, if_pos (by rw [List.length_drop]; omega), List.drop_drop]
    have e3 : (⟨((b.drop 2).take 17).drop 16, 0⟩ : St).out (oNum 1 (((b.drop 2).take 17).drop 16)) 0 = b.getD 18 0 := by
      unfold St.out oNum
      rw [if_pos rfl, if_pos (by rw [List.length_drop]; omega)]
      exact getD_take h64
    have hx18 : 0 ≤ b.getD 18 0 ∧ b.getD 18 0 < 256 := hb.rd_ 18
    have l1 := numAt_lt hb (i := 2) (n := 8) (by omega)
    have l2 := numAt_lt hb (i := 10) (n := 8) (by omega)
    rw [show (256 : Int) ^ 8 = 18446744073709551616 from by decide] at l1 l2
    have hN : numAt b 2 8 = (manB b).N := rfl
    have hG : numAt b 10 8 = (manB b).G := rfl
    have hK : b.getD 18 0 = (manB b).K := rfl
    rw [hN] at e1 l1
    rw [hG] at e2 l2
    rw [hK] at e3 hx18
    clear hN hG hK
    have hP : parseM b i = if (manB b).ok ∧ b = packB (manB b) ∧ i = (manB b).N % 2 then some (manB b) else none := by
      unfold parseM
      by_cases hh : (manB b).ok ∧ b = packB (manB b) ∧ i = (manB b).N % 2
      · rw [if_pos ⟨h64, hh⟩, if_pos hh]
      · rw [if_neg (fun hq => hh hq.2), if_neg hh]
    rw [hP]
    have hpb := fun (hh : (manB b).ok) => toL_str hb (pack_bytes hh)
    generalize hm : manB b = m at e1 e2 e3 l1 l2 hx18 hpb ⊢
    generalize hs0 : (⟨(b.drop 2).take 17, 0⟩ : St) = s0 at e1 t1 hrd
    generalize hs1 : (⟨((b.drop 2).take 17).drop 8, 0⟩ : St) = s1 at e2 t1 t2
    generalize hs2 : (⟨((b.drop 2).take 17).drop 16, 0⟩ : St) = s2 at e3 t2
    have q0 : s0.b = (b.drop 2).take 17 := by rw [← hs0]
    have q1 : s1.b = ((b.drop 2).take 17).drop 8 := by rw [← hs1]
    have q2 : s2.b = ((b.drop 2).take 17).drop 16 := by rw [← hs2]
    rw [← q0] at e1 t1
    rw [← q1] at e2 t2
    rw [← q2] at e3
    have HB := hid (And.intro h hb)
    clear hs0 hs1 hs2 hm hP q0 q1 q2 hR0 h hb hx17
    obtain ⟨N, G, K⟩ := m
    dsimp only at *
    have uk : IntKind.i64.wrap K = K := by rw [IntKind.wrap_i64]; omega
    clear hlm
    obtain ⟨R, hR⟩ : ∃ R, (if (⟨N, G, K⟩ : MM).ok ∧ b = packB ⟨N, G, K⟩ ∧ i = N % 2 then some (⟨N, G, K⟩ : MM) else none) = R := ⟨_, rfl⟩
    rw [hR]
    have HR := hid hR
    clear hR
    go_enter Tryz.func12, Tryz.ntmps12
    go_wp2_with fail
    refine hrd.mono ?_
    rintro e w1 ⟨p, rfl, hP1, hb1⟩
    have hz1 := (hb1.block _ (blk_lt hz)).trans hz
    have hB1 := hb0.trans (hb1.mono hb0.size)
    have hpge : w0.heap.size ≤ p := by obtain ⟨_, h, _⟩ := hP1; exact h.okp.1
    have hpn := blk_lt hz
    clear hrd hb0 hz hb1 hw0
    go_wp2_with fail
    refine (mLong_any hP1 (fun k hk => hk.2)).mono ?_
    rintro e w2 ⟨u, rfl, rfl, hP2, hC2⟩
    rw [t1] at hP2
    simp only [e1]
    have hz2 := (hC2.block _ (blk_lt hz1) (by omega)).trans hz1
    have hB2 := hB1.trans (hC2.below_ hB1.size (fun k hk => by omega))
    have sz2 := hC2.size
    clear hP1 hC2 hz1 hB1 t1 e1
    go_wp2_with fail
    refine (mLong_any hP2 (fun k hk => Nat.lt_of_lt_of_le hk.2 sz2)).mono ?_
    rintro e w3 ⟨u, rfl, rfl, hP3, hC3⟩
    rw [t2] at hP3
    simp only [e2]
    have hz3 := (hC3.block _ (blk_lt hz2) (by omega)).trans hz2
    have hB3 := hB2.trans (hC3.below_ hB2.size (fun k hk => by omega))
    have sz3 := Nat.le_trans sz2 hC3.size
    clear hP2 hC3 hz2 hB2 t2 e2
    go_wp2_with fail
    refine (mByte_any hP3 (fun k hk => Nat.lt_of_lt_of_le hk.2 sz3)).mono ?_
    rintro e w4 ⟨u, rfl, rfl, hP4, hC4⟩
    simp only [e3]
    have hz4 := (hC4.block _ (blk_lt hz3) (by omega)).trans hz3
    have hB4 := hB3.trans (hC4.below_ hB3.size (fun k hk => by omega))
    clear hP3 hC4 hz3 hB3 e3 hP4
    go_wp2_with fail
    have hz5 := (Below.heap_alloc w4 (.cells #[.int .u64 N, .int .u64 G, .int .i64 K] 29) w.heap.size (blk_lt hz4)).trans hz4
    have hr5 := heap_alloc_new w4 (.cells #[.int .u64 N, .int .u64 G, .int .i64 K] 29)
    have hB5 := below_step hB4 (below_alloc (Below.refl _ _) (.cells #[.int .u64 N, .int .u64 G, .int .i64 K] 29))
    have hlt4 := blk_lt hz4
    generalize w4.alloc (.cells #[.int .u64 N, .int .u64 G, .int .i64 K] 29) = w5 at hz5 hr5 hB5 ⊢
    have hlt5 := blk_lt hr5
    have hlt6 := blk_lt hz5
    clear hz4 hB4
    by_cases hok : (⟨N, G, K⟩ : MM).ok
    · have hpk := pack_any (w := w5) hok
      have hpb2 := hpb hok
      unfold manV at hpk
      dsimp only at hpk
      refine hpk.mono ?_
      rintro e w6 ⟨g, rfl, hg, hU, hB6⟩
      have hz6 := (hB6.block _ hlt6).trans hz5
      have hr6 := (hB6.block _ hlt5).trans hr5
      have hB7 := below_step hB5 hB6
      have hW : Below w.heap.size w w6 := hB7
      have cv1 : (convert 25 9 (.slice (some a) 64 c)).run Tryz.prog w6 = .ok (.string (strOfNums b)) w6 := by
        have := conv_str (c := c) (Kd.F_now (RB_below HB.out.1 hW))
        rwa [h64] at this
      have cv2 : (convert 25 9 (.slice (some ⟨g, 0, none⟩) 64 64)).run Tryz.prog w6 = .ok (.string (strOfNums (packB ⟨N, G, K⟩))) w6 := by
        have := conv_str (c := 64) (Kd.F_now (hU.row (by rw [pack_len]; omega)))
        rwa [pack_len] at this
      have k0 := cell_of_row _ _ 0 _ _ _ hr6
      have k1 := cell_of_row _ _ 1 _ _ _ hr6
      have k2 := cell_of_row _ _ 2 _ _ _ hr6
      have z0 := cell_of_row _ _ 0 _ _ _ hz6
      have z1 := cell_of_row _ _ 1 _ _ _ hz6
      have z2 := cell_of_row _ _ 2 _ _ _ hz6
      have f0 := frozen_of_row _ _ 0 _ _ hz6
      have f1 := frozen_of_row _ _ 1 _ _ hz6
      have f2 := frozen_of_row _ _ 2 _ _ hz6
      simp at k0 k1 k2 z0 z1 z2
      have hN0 : 0 ≤ N ∧ N ≤ 9223372036854775807 := by have := hok.1; have := hok.2.1; unfold mostN at this; dsimp only at *; omega
      have HOK := hid hok
      generalize hps : strOfNums (packB ⟨N, G, K⟩) = S at cv2 hpb2
      generalize hbs : strOfNums b = T at cv1 hpb2
      have hzf := hid (And.intro (set3 hz6) (And.intro (fun v0 v1 v2 => below3 hW (Nat.le_refl w.heap.size) v0 v1 v2) (And.intro hz6 hW)))
      clear hok hpk hU hB6 hz6 hr6 hB7 hW hz5 hr5 hB5 hps hbs hpb HB
      by_cases hbe : b = packB ⟨N, G, K⟩
      · rw [decide_eq_true hbe] at hpb2
        have hmod : (N.tmod 2) = N % 2 := Int.tmod_eq_emod_of_nonneg hN0.1
        have hwm : IntKind.u64.wrap (N % 2) = N % 2 := by rw [IntKind.wrap_u64]; omega
        by_cases hie : i = N % 2
        · have hwi : IntKind.u64.wrap i = N % 2 := by rw [IntKind.wrap_u64]; omega
          have hfin : R = some ⟨N, G, K⟩ := by rw [← HR.out, if_pos ⟨HOK.out, hbe, hie⟩]
          subst hfin
          clear hie hbe HR
          go_wp2
          refine bodyPost_ret (results_ct rfl _ _ w.heap.size 29 _ _ _ rfl (hzf.out.1 (.int .u64 N) (.int .u64 G) (.int .i64 K)) Tryz.underlying29 rfl (by kernel_rfl)) rfl ?_
          exact ⟨rfl, hzf.out.2.1 _ _ _⟩
        · obtain ⟨j, hwi⟩ : ∃ j, IntKind.u64.wrap i = j := ⟨_, rfl⟩
          have hji : (j == N % 2) = false := by
            have : ¬ j = N % 2 := by rw [← hwi, IntKind.wrap_u64]; omega
            simpa using this
          have hfin : R = none := by rw [← HR.out, if_neg (fun hh => hie hh.2.2)]
          subst hfin
          clear hie hbe HR
          go_wp2
          refine bodyPost_ret (results_ct rfl _ _ w.heap.size 29 _ _ _ rfl (hzf.out.1 (.int .u64 0) (.int .u64 0) (.int .i64 0)) Tryz.underlying29 rfl (by kernel_rfl)) rfl ?_
          exact ⟨rfl, hzf.out.2.1 _ _ _⟩
      · rw [decide_eq_false hbe] at hpb2
        have hfin : R = none := by rw [← HR.out, if_neg (fun hh => hbe hh.2.1)]
        subst hfin
        clear hbe HR
        go_wp2
        refine bodyPost_ret (results_ct rfl _ _ w.heap.size 29 _ _ _ rfl (hzf.out.1 (.int .u64 0) (.int .u64 0) (.int .i64 0)) Tryz.underlying29 rfl (by kernel_rfl)) rfl ?_
        exact ⟨rfl, hzf.out.2.1 _ _ _⟩
    · have hpk := pack_err (w := w5) hok l1.1 l2.1
      unfold manV at hpk
      dsimp only at hpk
      have hfin : R = none := by rw [← HR.out, if_neg (fun hh => hok hh.1)]
      subst hfin
      refine hpk.mono ?_
      rintro e w6 ⟨rfl, hB6⟩
      have hz6 := (hB6.block _ hlt6).trans hz5
      have hB7 := below_step hB5 hB6
      have z0 := cell_of_row _ _ 0 _ _ _ hz6
      have z1 := cell_of_row _ _ 1 _ _ _ hz6
      have z2 := cell_of_row _ _ 2 _ _ _ hz6
      have f0 := frozen_of_row _ _ 0 _ _ hz6
      have f1 := frozen_of_row _ _ 1 _ _ hz6
      have f2 := frozen_of_row _ _ 2 _ _ hz6
      simp at z0 z1 z2
      have hzf := hid (And.intro (set3 hz6) (And.intro (fun v0 v1 v2 => below3 hB7 (Nat.le_refl w.heap.size) v0 v1 v2) (And.intro hz6 hB7)))
      clear hok hpk hB6 hz6 hB7 hz5 hr5 hB5 hpb HB HR
      go_wp2
      refine bodyPost_ret (results_ct rfl _ _ w.heap.size 29 _ _ _ rfl (hzf.out.1 (.int .u64 0) (.int .u64 0) (.int .i64 0)) Tryz.underlying29 rfl (by kernel_rfl)) rfl ?_
      exact ⟨rfl, hzf.out.2.1 _ _ _⟩
  · rw [show parseM b i = none from by unfold parseM; rw [if_neg (fun hh => h64 hh.1)]]
    have hl : ((b.length : Int) == 64) = false := by simpa using (by omega : ¬ (b.length : Int) = 64)
    have hf := hb0
    have hz0 := hz
    go_enter Tryz.func12, Tryz.ntmps12
    go_wp2
    refine bodyPost_ret (results_ct rfl _ _ w.heap.size 29 _ _ _ rfl hz0 Tryz.underlying29 rfl (by kernel_rfl)) rfl ?_
    exact ⟨rfl, hf⟩
end Go.Proofs.YticogmpafehomaaGreatDoor

set_option linter.unusedVariables false
set_option linter.unusedSimpArgs false
namespace Go.Proofs.YticogmpafehomaaGreatDoor
open Go.RowKit Go.Proofs.YticogmpafehomaaGreatDoorW.PrintWords Go.Proofs.YticogmpafehomaaGreatDoorW.PrintMore
attribute [local go_sem] max2_int max_two

theorem standing_gone {w : World} {ok : Nat → Prop} {p : Nat} {D : DM} (h : PDisk w ok p D) (hg : D.gone = true) :
    Calls Tryz.prog 75 #[.pointer (some ⟨p, 0, none⟩)] w fun e w' => e = .returned (.tuple #[manV ⟨0, 0, 0⟩, .int .u64 0, .int .i64 61]) ∧ Below w.heap.size w w' := by
  have hb := blocks_any h
  have hlo := h.1.lo
  have hB := below_alloc (below_alloc (Below.refl w.heap.size w) (.cells #[.int .u64 0, .int .u64 0, .int .i64 0] 29)) (.cells #[.int .u64 0, .int .u64 0, .int .i64 0] 29)
  have hz := (Below.heap_alloc (w.alloc (.cells #[.int .u64 0, .int .u64 0, .int .i64 0] 29)) (.cells #[.int .u64 0, .int .u64 0, .int .i64 0] 29) w.heap.size (by simp)).trans (heap_alloc_new w (.cells #[.int .u64 0, .int .u64 0, .int .i64 0] 29))
  have h1 := h.step (w1 := (w.alloc (.cells #[.int .u64 0, .int .u64 0, .int .i64 0] 29)).alloc (.cells #[.int .u64 0, .int .u64 0, .int .i64 0] 29)) (fun k _ hk => hB.block k hk)
  have hbk := blocks_any h1
  have he : ¬ D.ready 0 = 0 := by unfold DM.ready; rw [if_pos hg]; omega
  have hrd := read_err 0 h1 he
  rw [show D.ready 0 = 61 from by unfold DM.ready; rw [if_pos hg]] at hrd
  generalize hw2 : (w.alloc (.cells #[.int .u64 0, .int .u64 0, .int .i64 0] 29)).alloc (.cells #[.int .u64 0, .int .u64 0, .int .i64 0] 29) = w2 at *
  have hn0 : (0 : Int) < (D.n : Int) := by omega
  have z0 := cell_of_row _ _ 0 _ _ _ hz
  have z1 := cell_of_row _ _ 1 _ _ _ hz
  have z2 := cell_of_row _ _ 2 _ _ _ hz
  have f0 := frozen_of_row _ _ 0 _ _ hz
  have f1 := frozen_of_row _ _ 1 _ _ hz
  have f2 := frozen_of_row _ _ 2 _ _ hz
  simp at z0 z1 z2
  have HF := hid (And.intro (set3 hz) (below3 hB (Nat.le_refl w.heap.size)))
  clear hz hB h1 h
  go_enter Tryz.func75, Tryz.ntmps75
  go_wp2_with fail
  refine hbk.mono ?_
  rintro e w3 ⟨rfl, rfl⟩
  go_wp2_with fail
  go_loopw [23] (fun i wr => i = .int .i64 0 ∧ wr = w2) (fun _ _ => 0)
  case atStart => exact ⟨rfl, rfl⟩
  case round =>
    obtain ⟨rfl, rfl⟩ := hrel
    go_wp2_with fail
    refine hrd.mono ?_
    rintro e w4 ⟨rfl, rfl⟩
    go_wp2
    refine bodyPost_ret (results_ctt rfl _ _ w.heap.size 29 _ _ _ rfl (HF.out.1 (.int .u64 0) (.int .u64 0) (.int .i64 0)) Tryz.underlying29 rfl (by kernel_rfl)) rfl ?_
    exact ⟨rfl, HF.out.2 _ _ _⟩
/-- The better manifest of the first k blocks. -/
def pickTo (D : DM) : Nat → MM
  | 0 => ⟨0, 0, 0⟩
  | k + 1 => if k < 2 then better (pickTo D k) (parseM (D.blk k) k) else pickTo D k
theorem pickTo_all (D : DM) : ∀ {k : Nat}, 2 ≤ k → pickTo D k = pickM D
  | 0, h => absurd h (by omega)
  | 1, h => absurd h (by omega)
  | 2, _ => rfl
  | k + 3, _ => by
    show (if k + 2 < 2 then _ else pickTo D (k + 2)) = _
    rw [if_neg (by omega)]
    exact pickTo_all D (by omega)
theorem pickTo_N (D : DM) : ∀ k, 0 ≤ (pickTo D k).N ∧ (pickTo D k).N ≤ mostN
  | 0 => by simp [pickTo, mostN]
  | k + 1 => by
    have h := pickTo_N D k
    show 0 ≤ (if k < 2 then better (pickTo D k) (parseM (D.blk k) k) else pickTo D k).N ∧ (if k < 2 then better (pickTo D k) (parseM (D.blk k) k) else pickTo D k).N ≤ mostN
    split
    · cases hp : parseM (D.blk k) k with
      | none => exact h
      | some x =>
        have hx := (parse_ok hp).1
        rw [better_some]
        split
        · have := hx.1; have := hx.2.1; omega
        · exact h
    · exact h
set_option maxRecDepth 100000 in
set_option maxHeartbeats 4000000 in
theorem standing_ok {w : World} {ok : Nat → Prop} {p : Nat} {D : DM} (h : PDisk w ok p D) (hg : D.gone = false) :
    Calls Tryz.prog 75 #[.pointer (some ⟨p, 0, none⟩)] w fun e w' => e = .returned (.tuple #[manV (pickM D), .int .u64 (stG D), .int .i64 0]) ∧ Below w.heap.size w w' := by
  have hlo := h.1.lo
  have hhi := h.1.hi
  have hB := below_alloc (below_alloc (Below.refl w.heap.size w) (.cells #[.int .u64 0, .int .u64 0, .int .i64 0] 29)) (.cells #[.int .u64 0, .int .u64 0, .int .i64 0] 29)
  have hz := (Below.heap_alloc (w.alloc (.cells #[.int .u64 0, .int .u64 0, .int .i64 0] 29)) (.cells #[.int .u64 0, .int .u64 0, .int .i64 0] 29) w.heap.size (by simp)).trans (heap_alloc_new w (.cells #[.int .u64 0, .int .u64 0, .int .i64 0] 29))
  have hy := heap_alloc_new (w.alloc (.cells #[.int .u64 0, .int .u64 0, .int .i64 0] 29)) (.cells #[.int .u64 0, .int .u64 0, .int .i64 0] 29)
  rw [World.size_alloc] at hy
  have h1 := h.step (w1 := (w.alloc (.cells #[.int .u64 0, .int .u64 0, .int .i64 0] 29)).alloc (.cells #[.int .u64 0, .int .u64 0, .int .i64 0] 29)) (fun k _ hk => hB.block k hk)
  have hbk := blocks_any h1
  clear h1
  generalize hw2 : (w.alloc (.cells #[.int .u64 0, .int .u64 0, .int .i64 0] 29)).alloc (.cells #[.int .u64 0, .int .u64 0, .int .i64 0] 29) = w2 at hB hz hy hbk
  go_enter Tryz.func75, Tryz.ntmps75
  go_wp2_with fail
  refine hbk.mono ?_
  rintro e w3 ⟨rfl, rfl⟩
  clear hbk hw2
  go_wp2_with fail
  go_loopw [6, 23] (fun v i wr => ∃ k : Nat, k ≤ D.n ∧ i = .int .i64 k ∧ v = .int .u64 (genTo D k) ∧ wr.heap[w.heap.size]? = some (.cells #[.int .u64 0, .int .u64 0, .int .i64 0] 29 (0, 0)) ∧
    wr.heap[w.heap.size + 1]? = some (.cells #[.int .u64 (pickTo D k).N, .int .u64 (pickTo D k).G, .int .i64 (pickTo D k).K] 29 (0, 0)) ∧ Below w.heap.size w wr) (fun _ i _ => D.n - (intOf i).toNat)
  case atStart => exact ⟨0, Nat.zero_le _, rfl, rfl, hz, hy, hB⟩
  case round =>
    clear hz hy hB
    obtain ⟨W, hW⟩ : ∃ W : World, W = wr := ⟨_, rfl⟩
    subst hW
    obtain ⟨k, hk, rfl, rfl, hz, hy, hB⟩ := hrel
    by_cases hlt : k < D.n
    · have hPD := h.step (w1 := W) (fun k _ hk => hB.block k hk)
      have hrd := read_ok k hPD (ready_in hg hlt) hlt
      have hl := blk_length h.1 hlt
      have hbb := blk_bytes h.1 k
      have hk1 := headR_gen hbb
      have hk2 := bodyV_gen hbb
      have hgb := genTo_bnd D k
      have hmb := pickTo_N D k
      have hgs : genTo D (k + 1) = genAt D (genTo D k) k := rfl
      have hps : pickTo D (k + 1) = if k < 2 then better (pickTo D k) (parseM (D.blk k) k) else pickTo D k := rfl
      have hltI : (k : Int) < (D.n : Int) := by omega
      generalize hgk : genTo D k = g at hgb hgs ⊢
      generalize hgk1 : genTo D (k + 1) = g1 at hgs
      generalize hpk : pickTo D k = m at hmb hps hy ⊢
      generalize hpk1 : pickTo D (k + 1) = m1 at hps
      have HL := hid (And.intro hl (And.intro hgs (And.intro hps (And.intro hgk1 hpk1))))
      clear hl hgs hps hgk hgk1 hpk hpk1 hPD
      unfold mostN at hgb hmb
      by_cases hk2' : k < 2
      · have hk2I : (k : Int) < 2 := by omega
        go_wp2_with fail
        refine hrd.mono ?_
        rintro e w1 ⟨rfl, hw1⟩
        have hRB : RB w1 (fun k => k = W.heap.size) (some ⟨W.heap.size, 0, none⟩) (D.blk k) := by rw [hw1]; exact RB_new _ _ _ (by rw [HL.out.1]; omega)
        have hB1 : Below W.heap.size W w1 := by rw [hw1]; exact below_alloc (Below.refl _ _) _
        clear hw1 hrd
        have hpr := parse_any (c := 64) hRB hbb (by rw [HL.out.1]; omega) (k : Int) (by omega)
        rw [HL.out.1] at hpr
        unfold parseV at hpr
        go_wp2_with fail
        refine hpr.mono ?_
        rintro e w3 ⟨rfl, hB3⟩
        have hB4 := below_step hB1 hB3
        have hz3 := (hB4.block _ (blk_lt hz)).trans hz
        have hy3 := (hB4.block _ (blk_lt hy)).trans hy
        have hB5 := below_step hB hB4
        clear hB1 hB3 hB4 hRB hpr hz hy hB
        cases hpm : parseM (D.blk k) k with
        | none =>
          have hB6 := below_step hB5 (below_alloc (Below.refl _ _) (.cells #[.int .u64 0, .int .u64 0, .int .i64 0] 29))
          have hz6 := (Below.heap_alloc w3 (.cells #[.int .u64 0, .int .u64 0, .int .i64 0] 29) _ (blk_lt hz3)).trans hz3
          have hy6 := (Below.heap_alloc w3 (.cells #[.int .u64 0, .int .u64 0, .int .i64 0] 29) _ (blk_lt hy3)).trans hy3
          have e1 : g1 = g := by rw [HL.out.2.1]; unfold genAt; rw [if_pos hk2', hpm]; rfl
          have e2 : m1 = m := by rw [HL.out.2.2.1, if_pos hk2', hpm]; rfl
          have HF := hid (And.intro hz6 (And.intro hy6 hB6))
          clear hz6 hy6 hB6 hz3 hy3 hB5 hpm
          simp only [Option.getD_none, Option.isSome_none]
          unfold manV
          dsimp only
          go_wp2
          go_roundw
          case rel => exact ⟨k + 1, by omega, by go_num, by rw [HL.out.2.2.2.1, e1], HF.out.1, by rw [HL.out.2.2.2.2, e2]; exact HF.out.2.1, HF.out.2.2⟩
          case measure => simp [intOf]; omega
        | some x =>
          have hx := (parse_ok hpm).1
          have e1 : g1 = max g x.G := by rw [HL.out.2.1]; unfold genAt; rw [if_pos hk2', hpm]; rfl
          have e2 : m1 = if m.N < x.N then x else m := by rw [HL.out.2.2.1, if_pos hk2', hpm]; rfl
          simp only [Option.getD_some, Option.isSome_some]
          unfold manV
          obtain ⟨xN, xG, xK⟩ := x
          obtain ⟨mN, mG, mK⟩ := m
          have hx1 := hx.1
          have hx2 := hx.2.1
          have hx3 := hx.2.2.1
          unfold mostN at hx2
          dsimp only at hx1 hx2 hx3 hy3 hmb e1 e2 ⊢
          have hB6 := below_step hB5 (below_alloc (Below.refl _ _) (.cells #[.int .u64 xN, .int .u64 xG, .int .i64 xK] 29))
          have hz6 := (Below.heap_alloc w3 (.cells #[.int .u64 xN, .int .u64 xG, .int .i64 xK] 29) _ (blk_lt hz3)).trans hz3
          have hy6 := (Below.heap_alloc w3 (.cells #[.int .u64 xN, .int .u64 xG, .int .i64 xK] 29) _ (blk_lt hy3)).trans hy3
          have hx6 := heap_alloc_new w3 (.cells #[.int .u64 xN, .int .u64 xG, .int .i64 xK] 29)
          have hlty := blk_lt hy3
          generalize hw6 : w3.alloc (.cells #[.int .u64 xN, .int .u64 xG, .int .i64 xK] 29) = w6 at hB6 hz6 hy6 hx6
          have x0 := cell_of_row _ _ 0 _ _ _ hx6
          have x1 := cell_of_row _ _ 1 _ _ _ hx6
          have x2 := cell_of_row _ _ 2 _ _ _ hx6
          have y0 := cell_of_row _ _ 0 _ _ _ hy6
          have y1 := cell_of_row _ _ 1 _ _ _ hy6
          have y2 := cell_of_row _ _ 2 _ _ _ hy6
          have f0 := frozen_of_row _ _ 0 _ _ hy6
          have f1 := frozen_of_row _ _ 1 _ _ hy6
          have f2 := frozen_of_row _ _ 2 _ _ hy6
          simp at x0 x1 x2 y0 y1 y2
          have hy7 := set3 hy6 (.int .u64 xN) (.int .u64 xG) (.int .i64 xK)
          have hz7 : (W3s w6 (w.heap.size + 1) (.int .u64 xN) (.int .u64 xG) (.int .i64 xK)).heap[w.heap.size]? = _ :=
            ((Below.heap_setCell _ ⟨w.heap.size + 1, 2, none⟩ _ w.heap.size (by simp)).trans ((Below.heap_setCell _ ⟨w.heap.size + 1, 1, none⟩ _ w.heap.size (by simp)).trans (Below.heap_setCell w6 ⟨w.heap.size + 1, 0, none⟩ (.int .u64 xN) w.heap.size (by simp)))).trans hz6
          have hB7 := below3 hB6 (n := w.heap.size + 1) (by omega) (.int .u64 xN) (.int .u64 xG) (.int .i64 xK)
          have HF := hid (And.intro hz6 (And.intro hy6 hB6))
          have HG := hid (And.intro hz7 (And.intro hy7 hB7))
          clear hz6 hy6 hB6 hz7 hy7 hB7 hz3 hy3 hB5 hpm hx hx6
          by_cases hmx : mN < xN
          · rw [if_pos hmx] at e2
            have E2 := hid e2
            have E1 := hid e1
            clear e1 e2
            go_wp2
            go_roundw
            case rel => exact ⟨k + 1, by omega, by go_num, by rw [HL.out.2.2.2.1, E1.out]; congr 1; split <;> omega, HG.out.1, by rw [HL.out.2.2.2.2, E2.out]; exact HG.out.2.1, HG.out.2.2⟩
            case measure => simp [intOf]; omega
          · rw [if_neg hmx] at e2
            have E2 := hid e2
            have E1 := hid e1
            clear e1 e2
            go_wp2
            go_roundw
            case rel => exact ⟨k + 1, by omega, by go_num, by rw [HL.out.2.2.2.1, E1.out]; congr 1; split <;> omega, HF.out.1, by rw [HL.out.2.2.2.2, E2.out]; exact HF.out.2.1, HF.out.2.2⟩
            case measure => simp [intOf]; omega
      · have hk2I : ¬ (k : Int) < 2 := by omega
        have e1 : g1 = gotM (gotM g (headR (D.blk k)).gen) (bodyV (D.blk k)).1 := by rw [HL.out.2.1]; unfold genAt; rw [if_neg hk2']
        have e2 : m1 = m := by rw [HL.out.2.2.1, if_neg hk2']
        go_wp2_with fail
        refine hrd.mono ?_
        rintro e w1 ⟨rfl, hw1⟩
        have hRB : RB w1 (fun k => k = W.heap.size) (some ⟨W.heap.size, 0, none⟩) (D.blk k) := by rw [hw1]; exact RB_new _ _ _ (by rw [HL.out.1]; omega)
        have hB1 : Below W.heap.size W w1 := by rw [hw1]; exact below_alloc (Below.refl _ _) _
        clear hw1 hrd
        have hh := head_any (c := 64) hRB hbb (by rw [HL.out.1]; omega)
        rw [HL.out.1] at hh
        go_wp2_with fail
        refine hh.mono ?_
        rintro e w3 ⟨A, c, rfl, hRB3, hle, hB3⟩
        clear hh
        have hbd : ∀ W', Below w1.heap.size w1 W' → Calls Tryz.prog 122 #[.slice (some ⟨W.heap.size, 0, none⟩) 64 64] W' fun e w' => e = .returned (.tuple #[.int .u64 (bodyV (D.blk k)).1, .int .i64 (bodyV (D.blk k)).2.1, .int .i64 (bodyV (D.blk k)).2.2.1, .bool (bodyV (D.blk k)).2.2.2]) ∧ Below W'.heap.size W' w' := fun W' hW => by
          have := body_any (c := 64) (RB_below hRB hW) hbb (by rw [HL.out.1]; omega)
          rw [HL.out.1] at this
          exact this
        unfold recV
        generalize headR (D.blk k) = R at hk1 e1 hRB3 hle ⊢
        generalize headN (D.blk k) = N
        generalize decide (headOK (D.blk k)) = ib
        generalize bodyV (D.blk k) = V at hbd hk2 e1
        obtain ⟨rg, ra, rk, rb⟩ := R
        obtain ⟨vg, va, vk, vi⟩ := V
        dsimp only at hk1 hk2 hbd e1 hle ⊢
        have hB2' : Below w1.heap.size w1 (w3.alloc (.cells #[.int .u64 rg, .int .i64 ra, .int .i64 rk, .slice A rb.length c] 117)) := below_alloc hB3 _
        go_wp2_with fail
        refine (hbd _ hB2').mono ?_
        rintro e w4 ⟨rfl, hB4⟩
        have hc4 : w4.cell? ⟨w3.heap.size, 0, none⟩ = some (.int .u64 rg) := by rw [hB4.cell (by simp)]; go_simp
        have hBW : Below W.heap.size W w4 := hB1.trans ((hB2'.trans (hB4.mono hB2'.size)).mono hB1.size)
        have hz4 := (hBW.block _ (blk_lt hz)).trans hz
        have hy4 := (hBW.block _ (blk_lt hy)).trans hy
        have hB5 := below_step hB hBW
        clear hbd hB2' hB4 hB3 hB1 hRB hRB3 hBW hz hy hB
        have hs5 := heap_alloc_new w4 (.cells #[.int .u64 rg, .int .u64 vg] 22)
        have hz5 := (Below.heap_alloc w4 (.cells #[.int .u64 rg, .int .u64 vg] 22) _ (blk_lt hz4)).trans hz4
        have hy5 := (Below.heap_alloc w4 (.cells #[.int .u64 rg, .int .u64 vg] 22) _ (blk_lt hy4)).trans hy4
        have hB6 := below_step hB5 (below_alloc (Below.refl _ _) (.cells #[.int .u64 rg, .int .u64 vg] 22))
        have HF := hid (And.intro hz5 (And.intro hy5 hB6))
        clear hz5 hy5 hB6 hB5 hz4 hy4
        go_wp2_with fail
        generalize w4.alloc (.cells #[.int .u64 rg, .int .u64 vg] 22) = w5 at hs5 HF ⊢
        have s0 := cell_of_row _ _ 0 _ _ _ hs5
        have s1 := cell_of_row _ _ 1 _ _ _ hs5
        simp at s0 s1
        have E1 := hid e1
        have E2 := hid e2
        clear e1 e2 hs5 hc4
        go_loopw [6, 73] (fun v i wr2 => wr2 = w5 ∧ ∃ j : Nat, j ≤ 2 ∧ i = .int .i64 j ∧ v = .int .u64 (if j = 0 then g else if j = 1 then gotM g rg else gotM (gotM g rg) vg)) (fun _ i _ => 2 - (intOf i).toNat)
        case atStart => exact ⟨rfl, 0, by omega, rfl, rfl⟩
        case round =>
          obtain ⟨rfl, j, hj, rfl, rfl⟩ := hrel
          rcases (by omega : j = 0 ∨ j = 1 ∨ j = 2) with rfl | rfl | rfl
          · simp only [if_true]
            by_cases hr : rg ≤ 9223372036854775807
            · have q : gotM g rg = if g < rg then rg else g := by unfold gotM mostN; rw [if_pos hr]; split <;> omega
              have Q := hid q
              clear q
              go_wp2
              go_roundw
              case rel => exact ⟨trivial, 1, by omega, by go_num, by show _ = Value.int .u64 (gotM g rg); rw [Q.out]⟩
              case measure => simp [intOf]
            · have q : gotM g rg = g := by unfold gotM mostN; rw [if_neg hr]
              have Q := hid q
              clear q
              go_wp2
              go_roundw
              case rel => exact ⟨trivial, 1, by omega, by go_num, by show _ = Value.int .u64 (gotM g rg); rw [Q.out]⟩
              case measure => simp [intOf]
          · rw [if_neg (by omega), if_pos rfl]
            have gq : ∃ g', gotM g rg = g' := ⟨_, rfl⟩
            obtain ⟨g', hg'⟩ := gq
            rw [hg']
            have hgb' : 0 ≤ g' := by rw [← hg']; unfold gotM; split <;> omega
            by_cases hr : vg ≤ 9223372036854775807
            · have q : gotM g' vg = if g' < vg then vg else g' := by unfold gotM mostN; rw [if_pos hr]; split <;> omega
              have Q := hid (And.intro q hg')
              clear q hg'
              go_wp2
              go_roundw
              case rel => exact ⟨trivial, 2, by omega, by go_num, by show _ = Value.int .u64 (gotM g' vg); rw [Q.out.1]⟩
              case measure => simp [intOf]
            · have q : gotM g' vg = g' := by unfold gotM mostN; rw [if_neg hr]
              have Q := hid (And.intro q hg')
              clear q hg'
              go_wp2
              go_roundw
              case rel => exact ⟨trivial, 2, by omega, by go_num, by show _ = Value.int .u64 (gotM g' vg); rw [Q.out.1]⟩
              case measure => simp [intOf]
          · rw [if_neg (by omega), if_neg (by omega)]
            have gq : ∃ g', gotM (gotM g rg) vg = g' := ⟨_, rfl⟩
            obtain ⟨g', hg'⟩ := gq
            have E3 := hid hg'
            rw [hg']
            clear hg'
            go_wp2
            go_roundw
            case rel => exact ⟨k + 1, by omega, by go_num, by rw [HL.out.2.2.2.1, E1.out, E3.out], HF.out.1, by rw [HL.out.2.2.2.2, E2.out]; exact HF.out.2.1, HF.out.2.2⟩
            case measure => simp [intOf]; omega
    · obtain rfl : k = D.n := by omega
      rw [pickTo_all D (by omega)] at hy
      rw [show genTo D D.n = stG D from rfl]
      have z0 := cell_of_row _ _ 0 _ _ _ hz
      have z1 := cell_of_row _ _ 1 _ _ _ hz
      have z2 := cell_of_row _ _ 2 _ _ _ hz
      have f0 := frozen_of_row _ _ 0 _ _ hz
      have f1 := frozen_of_row _ _ 1 _ _ hz
      have f2 := frozen_of_row _ _ 2 _ _ hz
      have y0 := cell_of_row _ _ 0 _ _ _ hy
      have y1 := cell_of_row _ _ 1 _ _ _ hy
      have y2 := cell_of_row _ _ 2 _ _ _ hy
      simp at z0 z1 z2 y0 y1 y2
      have HF := hid (And.intro (set3 hz (.int .u64 (pickM D).N) (.int .u64 (pickM D).G) (.int .i64 (pickM D).K)) (below3 hB (Nat.le_refl w.heap.size) (.int .u64 (pickM D).N) (.int .u64 (pickM D).G) (.int .i64 (pickM D).K)))
      clear hz hy hB
      go_wp2
      refine bodyPost_ret (results_ctt rfl _ _ w.heap.size 29 _ _ _ rfl HF.out.1 Tryz.underlying29 rfl (by kernel_rfl)) rfl ?_
      exact ⟨rfl, HF.out.2⟩
end Go.Proofs.YticogmpafehomaaGreatDoor

set_option linter.unusedVariables false
set_option linter.unusedSimpArgs false
namespace Go.Proofs.YticogmpafehomaaGreatDoor
open Go.RowKit Go.Proofs.YticogmpafehomaaGreatDoorW.PrintWords Go.Proofs.YticogmpafehomaaGreatDoorW.PrintMore

set_option maxRecDepth 100000 in
set_option maxHeartbeats 1000000 in
theorem flip_any {w : World} {okd : Nat → Prop} {p : Nat} {D : DM} {m : MM} (h : PDisk w okd p D) (hok : m.ok) (hm : (D.ws.length + 65537) * 32 ≤ 140737488355328) (hlt : ∀ k, okd k → k < w.heap.size) :
    Calls Tryz.prog 76 #[.pointer (some ⟨p, 0, none⟩), manV m] w fun e w' => e = .returned (.int .i64 (flipF D m).1) ∧ PDisk w' (orNew okd w) p (flipF D m).2 ∧ Chg okd w w' := by
  have hB0 := below_alloc (Below.refl w.heap.size w) (.cells #[.int .u64 m.N, .int .u64 m.G, .int .i64 m.K] 29)
  have hx0 := heap_alloc_new w (.cells #[.int .u64 m.N, .int .u64 m.G, .int .i64 m.K] 29)
  have hpk := pack_any (w := w.alloc (.cells #[.int .u64 m.N, .int .u64 m.G, .int .i64 m.K] 29)) hok
  have hn := hok.1
  have hn2 := hok.2.1
  unfold mostN at hn2
  unfold flipF
  have hbt := pack_bytes hok
  have hpl := pack_len m
  generalize packB m = xs at hpk hbt hpl ⊢
  unfold manV at hpk ⊢
  obtain ⟨N, G, K⟩ := m
  dsimp only at *
  have hB00 : Below w.heap.size w (w.alloc (.cells #[.int .u64 N, .int .u64 G, .int .i64 K] 29)) := hB0
  have hlt0 := blk_lt hx0
  go_enter Tryz.func76, Tryz.ntmps76
  go_wp2_with fail
  refine hpk.mono ?_
  rintro e w1 ⟨g, rfl, hg, hU, hB1⟩
  have hB2 := below_step hB00 hB1
  have hx1 := (hB1.block _ hlt0).trans hx0
  have hP1 := h.step (w1 := w1) (fun k _ hk => hB2.block k hk)
  have k0 := cell_of_row _ _ 0 _ _ _ hx1
  simp at k0
  have hmod : (N.tmod 2) = N % 2 := Int.tmod_eq_emod_of_nonneg (by omega)
  have hwm : IntKind.u64.wrap (N % 2) = N % 2 := by rw [IntKind.wrap_u64]; omega
  have hwi : IntKind.i64.wrap (N % 2) = N % 2 := by rw [IntKind.wrap_i64]; omega
  have hg2 : w.heap.size < g := by simp at hg; omega
  have hwr := write_any (c := 64) (N % 2) hP1 (hU.row (by omega)) (fun k hk hk2 => by have := hlt k hk2; omega) hbt (by omega)
  rw [hpl] at hwr
  clear hpk hx0 hx1 hU hB0 hB00 hB1 hP1
  go_wp2_with fail
  refine hwr.mono ?_
  rintro e w2 ⟨rfl, hP2, hC2⟩
  have HF := hid (And.intro (hP2.mono (ok' := orNew okd w) (fun k hk => by
    rcases hk with hk | hk
    · exact .inl hk
    · exact .inr (Nat.le_trans hB2.size hk))) ((Chg.of_below hB2 okd).then_ hC2 (fun k hk => .inl hk)))
  clear hP2 hC2 hB2 hwr
  go_wp2
  go_ret
  exact ⟨rfl, HF.out⟩
end Go.Proofs.YticogmpafehomaaGreatDoor

set_option linter.unusedVariables false
set_option linter.unusedSimpArgs false
namespace Go.Proofs.YticogmpafehomaaGreatDoor
open Go.Maps Go.ChangeMaps Go.RowKit Go.WideMaps

def heldV (v : Value) : Option (DataW Value × List MemPlace) := some (.held v, [])
def kb (s : ByteArray) : Lit := .string (bl s)
theorem kb_inj {a b : ByteArray} (h : kb a = kb b) : a = b := by unfold kb at h; injection h with h; exact bl_inj h
section
variable {P : Program} {t k e : TypeId} {w w1 : World} {b n : Nat} {f : ByteArray → Option Value}
theorem keyOf_kb (hk : P.underlying k = some .string) {s : ByteArray} (hs : s.size ≤ maxLen) : keyOf P k (.string s) = some (kb s) := keyOf_string_mk hk hs
/-- Block b of w is a map of at most n entries, told by f. -/
def MapV (P : Program) (k : TypeId) (w : World) (b n : Nat) (f : ByteArray → Option Value) : Prop :=
  ∃ D : DataW Value, w.ownsMap P k heldV b n D ∧ (∀ s, Maps.has D (kb s) = (f s).isSome) ∧ ∀ s v, f s = some v → ∀ z, D.atKey (kb s) z = .held v
theorem MapV.made (P : Program) (k : TypeId) (w : World) : MapV P k (w.alloc (.map #[] 0)) w.heap.size 0 (fun _ => none) :=
  ⟨.map [], World.ownsMap_made w P k heldV, fun s => rfl, fun s v h => by cases h⟩
theorem MapV.lt (h : MapV P k w b n f) : b < w.heap.size := by obtain ⟨D, h, _⟩ := h; exact h.lt
theorem MapV.block (h : MapV P k w b n f) (hb : w1.heap[b]? = w.heap[b]?) : MapV P k w1 b n f := by
  obtain ⟨D, ⟨es, clock, h, h3⟩, h1, h2⟩ := h
  exact ⟨D, ⟨es, clock, hb.trans h, h3⟩, h1, h2⟩
theorem heldV_inj {v : Value} {d : DataW Value} {ps : List MemPlace} (h : heldV v = some (d, ps)) : d = .held v := by unfold heldV at h; simp at h; exact h.1.symm
theorem MapV.look (h : MapV P k w b n f) (hk : P.underlying k = some .string) (ht : P.underlying t = some (.map k e)) {z : Value} (hz : (zeroValue e).run P w = .ok z w) {s : ByteArray} (hs : s.size ≤ maxLen) :
    (Instr.lookup t (.map (some b)) (.string s) false).run P w = .ok ((f s).getD z) w := by
  obtain ⟨D, h, h1, h2⟩ := h
  obtain ⟨v, ps, hr, hv⟩ := h.lookup (string_keyed hk) ht hz (R := heldV) (zd := .held z) (zp := []) rfl (keyOf_kb hk hs)
  rw [hr]
  have hv2 := heldV_inj hv
  congr 1
  cases hf : f s with
  | some u =>
    rw [h2 s u hf] at hv2
    injection hv2 with hv2
    exact hv2.symm
  | none =>
    rw [Maps.atKey_of_not_has (by rw [h1, hf]; rfl)] at hv2
    injection hv2 with hv2
    exact hv2.symm
theorem MapV.look_ok (h : MapV P k w b n f) (hk : P.underlying k = some .string) (ht : P.underlying t = some (.map k e)) {z : Value} (hz : (zeroValue e).run P w = .ok z w) {s : ByteArray} (hs : s.size ≤ maxLen) :
    (Instr.lookup t (.map (some b)) (.string s) true).run P w = .ok (.tuple #[(f s).getD z, .bool (f s).isSome]) w := by
  obtain ⟨D, h, h1, h2⟩ := h
  obtain ⟨v, ps, hr, hv⟩ := h.look_ok (string_keyed hk) ht hz (R := heldV) (zd := .held z) (zp := []) rfl (keyOf_kb hk hs)
  rw [hr, h1 s]
  have hv2 := heldV_inj hv
  have : v = (f s).getD z := by
    cases hf : f s with
    | some u =>
      rw [h2 s u hf] at hv2
      injection hv2 with hv2
      exact hv2.symm
    | none =>
      rw [Maps.atKey_of_not_has (by rw [h1, hf]; rfl)] at hv2
      injection hv2 with hv2
      exact hv2.symm
  rw [this]
theorem isKey_kb (s : ByteArray) : WideAt.IsKeyLit (kb s) := trivial
theorem MapV.put (h : MapV P k w b n f) (hk : P.underlying k = some .string) (ht : P.underlying t = some (.map k e)) (hn : n < maxLen) {s : ByteArray} (hs : s.size ≤ maxLen) (v : Value) :
    ∃ w', (Instr.mapUpdate t (.map (some b)) (.string s) v).run P w = .ok () w' ∧ MapV P k w' b (n + 1) (fun x => if x = s then some v else f x) ∧ w.grownBy w' (some b) := by
  obtain ⟨D, h, h1, h2⟩ := h
  obtain ⟨w', hr, h', hg⟩ := h.update (string_keyed hk) ht hn (keyOf_kb hk hs) (d := .held v) (ps := []) (val := v) rfl
  refine ⟨w', hr, ⟨_, h', fun x => ?_, fun x u hx z => ?_⟩, hg⟩
  · by_cases e0 : x = s
    · subst e0
      rw [Maps.has_put_same h.isMap (isKey_kb x)]
      simp
    · rw [Maps.has_put_other (fun h => e0 (kb_inj h)), h1]
      simp [e0]
  · by_cases e0 : x = s
    · subst e0
      simp at hx
      subst hx
      exact Maps.atKey_put_same h.isMap (isKey_kb x) _ _
    · simp [e0] at hx
      rw [Maps.atKey_put_other (fun h => e0 (kb_inj h))]
      exact h2 x u hx z
theorem MapV.del (h : MapV P k w b n f) (hk : P.underlying k = some .string) (ht : P.underlying t = some (.map k e)) {s : ByteArray} (hs : s.size ≤ maxLen) (ty : TypeId) :
    ∃ w', (Builtin.delete_ #[t, k] ty #[.map (some b), .string s]).run P w = .ok (.tuple #[]) w' ∧ MapV P k w' b n (fun x => if x = s then none else f x) ∧ w.grownBy w' (some b) := by
  obtain ⟨D, h, h1, h2⟩ := h
  obtain ⟨w', hr, h', hg⟩ := h.drop (string_keyed hk) ht (keyOf_kb hk hs) ty
  refine ⟨w', hr, ⟨_, h', fun x => ?_, fun x u hx z => ?_⟩, hg.grown⟩
  · by_cases e0 : x = s
    · subst e0
      rw [Maps.has_del_same]
      simp
    · rw [Maps.has_del_other (fun h => e0 (kb_inj h)), h1]
      simp [e0]
  · by_cases e0 : x = s
    · subst e0
      simp at hx
    · simp [e0] at hx
      rw [Maps.atKey_del_other (fun h => e0 (kb_inj h))]
      exact h2 x u hx z
/-- 'm[k] = v' at the operation: the guard is 'at_mapUpdate'. -/
theorem wpList_put (w : World) {ops : Array Oper} {rest : List Oper} {o : Oper} {a : Act} {Q : Exit → Act → World → Prop} (hg : o.guard = none) (m x v : Operand) (t e : TypeId) (hop : o.op = Op.mapUpdate t m x v) (hk : P.underlying k = some .string) (ht : P.underlying t = some (.map k e))
    (hm : a.eval m = .map (some b)) (hown : MapV P k w b n f) (hn : n < maxLen) (s : ByteArray) (val : Value) (hs : s.size ≤ maxLen) (hx : a.eval x = .string s) (hv : a.eval v = val)
    (hK : ∀ w', MapV P k w' b (n + 1) (fun y => if y = s then some val else f y) → w.grownBy w' (some b) → wpList P ops Q rest (a.put o.dst undef) w') : wpList P ops Q (o :: rest) a w := by
  refine wpList_plain hg fun K' hK' => ?_
  obtain ⟨w', hrun, r1, r2⟩ := hown.put hk ht hn hs val
  unfold Oper.wp
  simp [execOp, hop, hm, hx, hv, hrun, Result.andThen]
  exact hK' _ _ (hK w' r1 r2)
/-- What a map's keys are, whoever hands them out. -/
theorem MapV.keys {D : DataW Value} (h : w.ownsMap P k heldV b n D) (hk : P.underlying k = some .string) (h1 : ∀ s, Maps.has D (kb s) = (f s).isSome) {ss : List BL} (hp : ss.Perm (strKeys D)) {l : List ByteArray} (hl : Sorted l) (hm : ∀ s, s ∈ l ↔ (f s).isSome = true) :
    ss.mergeSort (fun x y => decide (x ≤ y)) = l.map bl := by
  obtain ⟨es, rfl, hpw, _⟩ := h.entries (string_keyed hk)
  obtain ⟨es', he', hko⟩ := h.keysOf
  injection he' with he'
  subst he'
  have hnd : (l.map bl).Nodup := by
    unfold Sorted at hl
    refine List.Pairwise.imp ?_ hl
    intro a b hab e
    subst e
    exact BL.lt_irrefl _ hab
  have hpm : (l.map bl).Perm (strKeys (.map es)) := perm_strKeys hpw (fun p hp' => by
    obtain ⟨v, hv⟩ := hko p hp'
    obtain ⟨x, _, hx, _⟩ := Maps.keyOf_str hk hv
    exact ⟨x, hx⟩) hnd (fun x => by
    rw [← bl_tx x, mem_map_bl, hm, ← h1]
    rfl)
  have e1 := mergeSort_of_perm (hp.trans hpm.symm)
  have e2 : (l.map bl).mergeSort leB = l.map bl := List.mergeSort_of_pairwise (by
    unfold Sorted at hl
    refine List.Pairwise.imp ?_ hl
    intro a b hab
    simp only [leB, decide_eq_true_eq]
    exact BL.lt_asymm hab)
  exact e1.trans e2
/-- How many keys a map has. -/
theorem MapV.size {D : DataW Value} (h : w.ownsMap P k heldV b n D) (hk : P.underlying k = some .string) (h1 : ∀ s, Maps.has D (kb s) = (f s).isSome) {l : List ByteArray} (hl : Sorted l) (hm : ∀ s, s ∈ l ↔ (f s).isSome = true) : Maps.size D = l.length := by
  have hk2 := MapV.keys (f := f) h hk h1 (List.Perm.refl _) hl hm
  have := congrArg List.length hk2
  rw [List.length_mergeSort, List.length_map] at this
  obtain ⟨es, rfl, _⟩ := h.entries (string_keyed hk)
  rw [← this]
  simp [strKeys, Maps.size]
end
end Go.Proofs.YticogmpafehomaaGreatDoor

set_option linter.unusedVariables false
set_option linter.unusedSimpArgs false
namespace Go.Proofs.YticogmpafehomaaGreatDoor
open Go.RowKit Go.Maps Go.ChangeMaps Go.WideElems Go.Proofs.YticogmpafehomaaGreatDoorW.PrintWords Go.Proofs.YticogmpafehomaaGreatDoorW.PrintMore

/-- The store's variable: pd the disk's, hb the log's, mb the entries', dv the error. -/
def SBlk (w : World) (p pd hb mb : Nat) (m : MM) (dv : Value) : Prop := w.heap[p]? = some (.cells #[.pointer (some ⟨pd, 0, none⟩), .int .u64 m.N, .int .u64 m.G, .int .i64 m.K, .pointer (some ⟨hb, 0, none⟩), .map (some mb), dv] 101 (0, 0))
/-- An entry's bytes. -/
def HoldsB (w : World) (ok : Nat → Prop) (o : Option Value) : Option (List Int) → Prop
  | none => o = none
  | some bs => ∃ A c, o = some (.slice A bs.length c) ∧ bs.length ≤ c ∧ RB w ok A bs
theorem HoldsB.step {w w1 : World} {ok : Nat → Prop} {o : Option Value} {v : Option (List Int)} (h : HoldsB w ok o v) (hm : ∀ k, ok k → k < w.heap.size → w1.heap[k]? = w.heap[k]?) : HoldsB w1 ok o v := by
  cases v with
  | none => exact h
  | some bs => obtain ⟨A, c, h1, h2, h3⟩ := h; exact ⟨A, c, h1, h2, Kd.F_step h3 hm⟩
theorem HoldsB.mono {w : World} {ok ok' : Nat → Prop} {o : Option Value} {v : Option (List Int)} (h : HoldsB w ok o v) (hs : ∀ k, ok k → ok' k) : HoldsB w ok' o v := by
  cases v with
  | none => exact h
  | some bs => obtain ⟨A, c, h1, h2, h3⟩ := h; exact ⟨A, c, h1, h2, Kd.F_mono h3 hs⟩
/-- A map's block holds these entries; their bytes lie in ok. -/
def EMap (w : World) (ok : Nat → Prop) (mb : Nat) (E : Ent) : Prop := ∃ f, MapV Tryz.prog 9 w mb E.length f ∧ ∀ k, HoldsB w ok (f k) (look E k)
theorem EMap.step {w w1 : World} {ok : Nat → Prop} {mb : Nat} {E : Ent} (h : EMap w ok mb E) (hb : w1.heap[mb]? = w.heap[mb]?) (hm : ∀ k, ok k → k < w.heap.size → w1.heap[k]? = w.heap[k]?) : EMap w1 ok mb E := by
  obtain ⟨f, h1, h2⟩ := h
  exact ⟨f, h1.block hb, fun k => (h2 k).step hm⟩
theorem EMap.mono {w : World} {ok ok' : Nat → Prop} {mb : Nat} {E : Ent} (h : EMap w ok mb E) (hs : ∀ k, ok k → ok' k) : EMap w ok' mb E := by
  obtain ⟨f, h1, h2⟩ := h
  exact ⟨f, h1, fun k => (h2 k).mono hs⟩
theorem EMap.lt {w : World} {ok : Nat → Prop} {mb : Nat} {E : Ent} (h : EMap w ok mb E) : mb < w.heap.size := by obtain ⟨f, h1, _⟩ := h; exact h1.lt
theorem HoldsB.isSome {w : World} {ok : Nat → Prop} {o : Option Value} {v : Option (List Int)} (h : HoldsB w ok o v) : o.isSome = v.isSome := by
  cases v with
  | none => rw [show o = none from h]; rfl
  | some bs => obtain ⟨A, c, h1, _⟩ := h; rw [h1]; rfl
/-- A map has no more entries than keys. -/
theorem mapV_tight {P : Program} {k : TypeId} {w : World} {b n : Nat} {f : ByteArray → Option Value} (h : MapV P k w b n f) (hk : P.underlying k = some .string) {l : List ByteArray} (hl : Sorted l) (hm : ∀ s, s ∈ l ↔ (f s).isSome = true) : MapV P k w b l.length f := by
  obtain ⟨D, h, h1, h2⟩ := h
  have hs := MapV.size h hk h1 hl hm
  obtain ⟨es, clock, hb, F, hn, rfl⟩ := h
  refine ⟨_, ⟨es, clock, hb, F, ?_, rfl⟩, h1, h2⟩
  rw [← hs]
  simp [Maps.size, length_sorted]
theorem keys_iff {w : World} {ok : Nat → Prop} {f : ByteArray → Option Value} {E : Ent} (h : ∀ k, HoldsB w ok (f k) (look E k)) (s : ByteArray) : s ∈ keysE E ↔ (f s).isSome = true := by rw [mem_keysE, (h s).isSome]
/-- Is it dead? -/
def DeadV (w : World) (dead : Bool) (dv : Value) : Prop := if dead = true then ∃ db e, dv = .iface 159 (.pointer (some ⟨db, 0, none⟩)) ∧ w.heap[db]? = some (.cells #[.int .i64 e] 215 (0, 0)) else dv = .nilIface
/-- A store's blocks: p the struct's; okr the entries' bytes'. -/
structure PSb (w : World) (ok okr : Nat → Prop) (p pd hb mb : Nat) (dv : Value) (S : SM) : Prop where
  okp : ok p
  okh : ok hb
  okm : ok mb
  rows : ∀ k, okr k → ok k ∧ k < w.heap.size ∧ k ≠ p ∧ k ≠ hb ∧ k ≠ mb
  blk : SBlk w p pd hb mb S.m dv
  log : HBlk w hb pd S.H
  ent : EMap w okr mb S.E
  dead : DeadV w S.dead dv
  okd : ∀ db, dv = .iface 159 (.pointer (some ⟨db, 0, none⟩)) → ok db
def PSto (w : World) (ok : Nat → Prop) (p pd : Nat) (S : SM) : Prop := ∃ okr hb mb dv, PSb w ok okr p pd hb mb dv S
theorem PSb.ne {w : World} {ok okr : Nat → Prop} {p pd hb mb : Nat} {dv : Value} {S : SM} (h : PSb w ok okr p pd hb mb dv S) : p ≠ hb ∧ p ≠ mb ∧ hb ≠ mb := by
  have h1 := h.blk
  have h2 := h.log
  unfold SBlk at h1
  unfold HBlk at h2
  obtain ⟨f, ⟨D, ⟨es, clock, h3, _⟩, _⟩, _⟩ := h.ent
  refine ⟨fun e => ?_, fun e => ?_, fun e => ?_⟩
  · rw [e, h2] at h1; cases h1
  · rw [e, h3] at h1; cases h1
  · rw [e, h3] at h2; cases h2
theorem PSb.bound {w : World} {ok okr : Nat → Prop} {p pd hb mb : Nat} {dv : Value} {S : SM} (h : PSb w ok okr p pd hb mb dv S) : PSb w (fun k => ok k ∧ k < w.heap.size) okr p pd hb mb dv S :=
  ⟨⟨h.okp, blk_lt h.blk⟩, ⟨h.okh, h.log.lt⟩, ⟨h.okm, h.ent.lt⟩, fun k hk => by have := h.rows k hk; exact ⟨⟨this.1, this.2.1⟩, this.2⟩, h.blk, h.log, h.ent, h.dead, fun db e => ⟨h.okd db e, by
    have hd := h.dead
    unfold DeadV at hd
    split at hd
    · obtain ⟨db', x, e1, e2⟩ := hd
      rw [e] at e1
      obtain rfl : db = db' := by injection e1 with _ e1; injection e1 with e1; injection e1 with e1; injection e1
      exact blk_lt e2
    · rw [e] at hd; cases hd⟩⟩
theorem PSb.step {w w1 : World} {ok okr : Nat → Prop} {p pd hb mb : Nat} {dv : Value} {S : SM} (h : PSb w ok okr p pd hb mb dv S) (hm : ∀ k, ok k → k < w.heap.size → w1.heap[k]? = w.heap[k]?) : PSb w1 ok okr p pd hb mb dv S := by
  have hz : ∀ k, ok k → k < w.heap.size → k < w1.heap.size := fun k hk hlt => by
    have := hm k hk hlt
    rw [Array.getElem?_eq_getElem hlt] at this
    exact (Array.getElem?_eq_some_iff.1 this).1
  refine ⟨h.okp, h.okh, h.okm, fun k hk => ?_, (hm _ h.okp (blk_lt h.blk)).trans h.blk, h.log.step (hm _ h.okh h.log.lt), h.ent.step (hm _ h.okm h.ent.lt) (fun k hk hlt => hm k (h.rows k hk).1 hlt), ?_, h.okd⟩
  · have := h.rows k hk
    exact ⟨this.1, hz k this.1 this.2.1, this.2.2⟩
  · have hd := h.dead
    unfold DeadV at hd ⊢
    split at hd
    · rename_i hdd
      rw [if_pos hdd]
      obtain ⟨db, x, e1, e2⟩ := hd
      exact ⟨db, x, e1, (hm db (h.okd db e1) (blk_lt e2)).trans e2⟩
    · rename_i hdd
      rw [if_neg hdd]
      exact hd
theorem PSto.step {w w1 : World} {ok : Nat → Prop} {p pd : Nat} {S : SM} (h : PSto w ok p pd S) (hm : ∀ k, ok k → k < w.heap.size → w1.heap[k]? = w.heap[k]?) : PSto w1 ok p pd S := by
  obtain ⟨okr, hb, mb, dv, h⟩ := h; exact ⟨okr, hb, mb, dv, h.step hm⟩
theorem PSto.bound {w : World} {ok : Nat → Prop} {p pd : Nat} {S : SM} (h : PSto w ok p pd S) : PSto w (fun k => ok k ∧ k < w.heap.size) p pd S := by
  obtain ⟨okr, hb, mb, dv, h⟩ := h; exact ⟨okr, hb, mb, dv, h.bound⟩
theorem PSto.below {w w1 : World} {ok : Nat → Prop} {p pd : Nat} {S : SM} (h : PSto w ok p pd S) (hb : Below w.heap.size w w1) : PSto w1 ok p pd S := h.step (fun k _ hk => hb.block k hk)
namespace SBlk
variable {w : World} {p pd hb mb : Nat} {m : MM} {dv : Value}
theorem c0 (h : SBlk w p pd hb mb m dv) : w.cell? ⟨p, 0, none⟩ = some (.pointer (some ⟨pd, 0, none⟩)) := by rw [cell_of_row w p 0 _ _ _ h]; rfl
theorem c1 (h : SBlk w p pd hb mb m dv) : w.cell? ⟨p, 1, none⟩ = some (.int .u64 m.N) := by rw [cell_of_row w p 1 _ _ _ h]; rfl
theorem c2 (h : SBlk w p pd hb mb m dv) : w.cell? ⟨p, 2, none⟩ = some (.int .u64 m.G) := by rw [cell_of_row w p 2 _ _ _ h]; rfl
theorem c3 (h : SBlk w p pd hb mb m dv) : w.cell? ⟨p, 3, none⟩ = some (.int .i64 m.K) := by rw [cell_of_row w p 3 _ _ _ h]; rfl
theorem c4 (h : SBlk w p pd hb mb m dv) : w.cell? ⟨p, 4, none⟩ = some (.pointer (some ⟨hb, 0, none⟩)) := by rw [cell_of_row w p 4 _ _ _ h]; rfl
theorem c5 (h : SBlk w p pd hb mb m dv) : w.cell? ⟨p, 5, none⟩ = some (.map (some mb)) := by rw [cell_of_row w p 5 _ _ _ h]; rfl
theorem c6 (h : SBlk w p pd hb mb m dv) : w.cell? ⟨p, 6, none⟩ = some dv := by rw [cell_of_row w p 6 _ _ _ h]; rfl
theorem free (h : SBlk w p pd hb mb m dv) (j : Nat) : w.frozen? ⟨p, j, none⟩ = false := frozen_of_row w p j _ _ h
theorem step {w1 : World} (h : SBlk w p pd hb mb m dv) (hm : w1.heap[p]? = w.heap[p]?) : SBlk w1 p pd hb mb m dv := hm.trans h
theorem lt (h : SBlk w p pd hb mb m dv) : p < w.heap.size := blk_lt h
theorem setDead (h : SBlk w p pd hb mb m dv) (v : Value) : SBlk (w.setCell ⟨p, 6, none⟩ v) p pd hb mb m v := heap_setCell_same w p 6 _ _ _ h
end SBlk
end Go.Proofs.YticogmpafehomaaGreatDoor

set_option linter.unusedVariables false
set_option linter.unusedSimpArgs false
namespace Go.Proofs.YticogmpafehomaaGreatDoor
open Go.RowKit Go.Maps Go.Proofs.YticogmpafehomaaGreatDoorW.PrintWords Go.Proofs.YticogmpafehomaaGreatDoorW.PrintMore

theorem writeD_n {D : DM} (h : D.wf) (i : Int) (xs : List Int) : (D.writeD i xs).n = D.n := by
  unfold DM.writeD
  by_cases h1 : D.ready i = 0
  · by_cases h2 : xs.length = 64
    · by_cases h3 : D.left = 0
      · rw [if_neg (by simp [h1]), if_neg (by simp [h2]), if_pos h3]; rfl
      · rw [if_neg (by simp [h1]), if_neg (by simp [h2]), if_neg h3]
        have hi : 0 ≤ i ∧ i < D.n := by
          unfold DM.ready at h1
          split at h1
          · cases h1
          · split at h1
            · cases h1
            · omega
        have hb := h.len
        have hn : (splice D.b (i.toNat * 64) xs).length = D.b.length := length_splice _ _ _ (by omega)
        simp only [DM.n, hn]
    · rw [if_neg (by simp [h1]), if_pos h2]
  · rw [if_pos h1]
theorem flip_n {D : DM} (h : D.wf) (m : MM) : (flipF D m).2.n = D.n := writeD_n h _ _
theorem flip_wf {D : DM} (h : D.wf) {m : MM} (hm : m.ok) : (flipF D m).2.wf := writeD_wf h (pack_bytes hm) _
theorem sizeM_n {D D' : DM} (h : D'.n = D.n) : sizeM D' = sizeM D := by unfold sizeM; rw [h]
theorem baseM_n {D D' : DM} (h : D'.n = D.n) (K : Int) : baseM D' K = baseM D K := by unfold baseM; rw [sizeM_n h]
theorem hnew_fine {D : DM} (h : D.wf) {K G : Int} (hK : 0 ≤ K ∧ K ≤ 1) (hG : 1 ≤ G) : hnewE D (baseM D K) (sizeM D) G = 0 := by
  have h1 := h.lo
  unfold hnewE
  rw [if_neg]
  unfold baseM sizeM
  rcases (by omega : K = 0 ∨ K = 1) with rfl | rfl
  · simp; omega
  · simp; omega
/-- What Format and Open hand back: nothing, or a store beside its disk. -/
def Made (w w' : World) (okd : Nat → Prop) (p : Nat) (v : Value) (D' : DM) : Option SM → Prop
  | none => v = .pointer none ∧ PDisk w' (orNew okd w) p D'
  | some S => ∃ ps okd' okS, v = .pointer (some ⟨ps, 0, none⟩) ∧ PDisk w' okd' p S.D ∧ PSto w' okS ps p S ∧ apart okd' okS ∧ (∀ k, okd' k → orNew okd w k) ∧ (∀ k, okS k → w.heap.size ≤ k)
theorem format_gone {w : World} {okd : Nat → Prop} {p : Nat} {D : DM} (h : PDisk w okd p D) (hg : D.gone = true) :
    Calls Tryz.prog 28 #[.pointer (some ⟨p, 0, none⟩)] w fun e w' => e = .returned (.tuple #[.pointer none, .int .i64 61]) ∧ Below w.heap.size w w' := by
  have hst := standing_gone h hg
  unfold manV at hst
  go_enter Tryz.func28, Tryz.ntmps28
  go_wp2_with fail
  refine hst.mono ?_
  rintro e w1 ⟨rfl, hB⟩
  have hB2 := below_step hB (below_alloc (Below.refl _ _) (.cells #[.int .u64 0, .int .u64 0, .int .i64 0] 29))
  clear hB hst
  go_wp2
  go_ret2
  exact ⟨rfl, hB2⟩
theorem format_full {w : World} {okd : Nat → Prop} {p : Nat} {D : DM} (h : PDisk w okd p D) (hg : D.gone = false) (hf : (pickM D).N = mostN ∨ stG D = mostN) :
    Calls Tryz.prog 28 #[.pointer (some ⟨p, 0, none⟩)] w fun e w' => e = .returned (.tuple #[.pointer none, .int .i64 62]) ∧ Below w.heap.size w w' := by
  have hst := standing_ok h hg
  unfold manV at hst
  generalize pickM D = m at hst hf
  generalize stG D = g at hst hf
  obtain ⟨N, G, K⟩ := m
  dsimp only at hst hf
  unfold mostN at hf
  by_cases hN : N = 9223372036854775807
  · subst hN
    go_enter Tryz.func28, Tryz.ntmps28
    go_wp2_with fail
    refine hst.mono ?_
    rintro e w1 ⟨rfl, hB⟩
    have hB2 := below_step hB (below_alloc (Below.refl _ _) (.cells #[.int .u64 9223372036854775807, .int .u64 G, .int .i64 K] 29))
    clear hB hst
    go_wp2
    go_ret2
    exact ⟨rfl, hB2⟩
  · have hN2 : (N == 9223372036854775807) = false := by simpa using hN
    obtain rfl : g = 9223372036854775807 := by omega
    go_enter Tryz.func28, Tryz.ntmps28
    go_wp2_with fail
    refine hst.mono ?_
    rintro e w1 ⟨rfl, hB⟩
    have hB2 := below_step hB (below_alloc (Below.refl _ _) (.cells #[.int .u64 N, .int .u64 G, .int .i64 K] 29))
    clear hB hst
    go_wp2
    go_ret2
    exact ⟨rfl, hB2⟩
set_option maxRecDepth 100000 in
set_option maxHeartbeats 4000000 in
theorem format_any {w : World} {okd : Nat → Prop} {p : Nat} {D : DM} (h : PDisk w okd p D) (hm : (D.ws.length + 65537) * 32 ≤ 140737488355328) (hlt : ∀ k, okd k → k < w.heap.size) :
    Calls Tryz.prog 28 #[.pointer (some ⟨p, 0, none⟩)] w fun e w' => ∃ v, e = .returned (.tuple #[v, .int .i64 (formatF D).1]) ∧ Made w w' okd p v (formatF D).2.1 (formatF D).2.2 ∧ Chg okd w w' := by
  unfold formatF
  by_cases hg : D.gone = true
  · rw [if_pos hg]
    refine (format_gone h hg).mono ?_
    rintro e w' ⟨rfl, hB⟩
    exact ⟨_, rfl, ⟨rfl, (h.step (fun k _ hk => hB.block k hk)).mono (fun _ hk => .inl hk)⟩, Chg.of_below hB _⟩
  rw [if_neg hg]
  have hg0 : D.gone = false := by simpa using hg
  by_cases hf : (pickM D).N = mostN ∨ stG D = mostN
  · rw [if_pos hf]
    refine (format_full h hg0 hf).mono ?_
    rintro e w' ⟨rfl, hB⟩
    exact ⟨_, rfl, ⟨rfl, (h.step (fun k _ hk => hB.block k hk)).mono (fun _ hk => .inl hk)⟩, Chg.of_below hB _⟩
  rw [if_neg hf]
  have hst := standing_ok h hg0
  have hpN := pick_N D
  have hsg := stG_bnd D
  unfold manV at hst
  generalize pickM D = m at hst hf hpN ⊢
  generalize stG D = g at hst hf hsg ⊢
  obtain ⟨N, G, K⟩ := m
  dsimp only at hst hf hpN ⊢
  unfold mostN at hf hpN hsg
  have hN2 : (N == 9223372036854775807) = false := by simpa using (by omega : ¬ N = 9223372036854775807)
  have hg2 : (g == 9223372036854775807) = false := by simpa using (by omega : ¬ g = 9223372036854775807)
  have hok : (⟨N + 1, g + 1, 0⟩ : MM).ok := by unfold MM.ok mostN; dsimp only; omega
  have u1 : IntKind.u64.wrap (N + 1) = N + 1 := by rw [IntKind.wrap_u64]; omega
  have u2 : IntKind.u64.wrap (g + 1) = g + 1 := by rw [IntKind.wrap_u64]; omega
  have hfl : ∀ W, Below w.heap.size w W → Calls Tryz.prog 76 #[.pointer (some ⟨p, 0, none⟩), manV ⟨N + 1, g + 1, 0⟩] W fun e w' => e = .returned (.int .i64 (flipF D ⟨N + 1, g + 1, 0⟩).1) ∧ PDisk w' (orNew okd W) p (flipF D ⟨N + 1, g + 1, 0⟩).2 ∧ Chg okd W w' :=
    fun W hW => flip_any (h.step (fun k _ hk => hW.block k hk)) hok hm (fun k hk => Nat.lt_of_lt_of_le (hlt k hk) hW.size)
  have hwf2 := flip_wf h.1 hok
  have hn2 := flip_n h.1 ⟨N + 1, g + 1, 0⟩
  unfold log0
  dsimp only
  generalize hE : (flipF D ⟨N + 1, g + 1, 0⟩).1 = E at hfl ⊢
  generalize hD2 : (flipF D ⟨N + 1, g + 1, 0⟩).2 = D2 at hfl hwf2 hn2 ⊢
  unfold manV at hfl
  dsimp only at hfl
  have HX := hid (And.intro hE hD2)
  clear hE hD2
  obtain ⟨N1, hN1⟩ : ∃ N1, N + 1 = N1 := ⟨_, rfl⟩
  obtain ⟨g1, hg1⟩ : ∃ g1, g + 1 = g1 := ⟨_, rfl⟩
  rw [hN1] at u1 hfl hok ⊢
  rw [hg1] at u2 hfl hok ⊢
  have hnw := hnew_fine hwf2 (K := 0) (G := g1) ⟨by omega, by omega⟩ (by omega)
  rw [baseM_n hn2, sizeM_n hn2] at hnw
  obtain ⟨R, hR⟩ : ∃ R : Int × DM × Option SM, (if E = 0 then (0, D2, some ⟨D2, ⟨N1, g1, 0⟩, ⟨(baseM D 0 : Int), (sizeM D : Int), g1, 0, 0⟩, [], false⟩) else (E, D2, none)) = R := ⟨_, rfl⟩
  rw [hR]
  have HR := hid hR
  clear hR
  go_enter Tryz.func28, Tryz.ntmps28
  go_wp2_with fail
  refine hst.mono ?_
  rintro e w1 ⟨rfl, hB1⟩
  have hx2 := heap_alloc_new w1 (.cells #[.int .u64 N, .int .u64 G, .int .i64 K] 29)
  have hB2 := below_step hB1 (below_alloc (Below.refl _ _) (.cells #[.int .u64 N, .int .u64 G, .int .i64 K] 29))
  have hlt2 := blk_lt hx2
  have hs1 := hB1.size
  generalize hw2 : w1.alloc (.cells #[.int .u64 N, .int .u64 G, .int .i64 K] 29) = w2 at hx2 hB2 hlt2
  have k0 := cell_of_row _ _ 0 _ _ _ hx2
  have k1 := cell_of_row _ _ 1 _ _ _ hx2
  have k2 := cell_of_row _ _ 2 _ _ _ hx2
  have f0 := frozen_of_row _ _ 0 _ _ hx2
  have f1 := frozen_of_row _ _ 1 _ _ hx2
  have f2 := frozen_of_row _ _ 2 _ _ hx2
  simp at k0 k1 k2
  have hx3 := set3 hx2 (.int .u64 N1) (.int .u64 g1) (.int .i64 0)
  have hB3 := below3 hB2 hs1 (.int .u64 N1) (.int .u64 g1) (.int .i64 0)
  have HF3 := hid (And.intro hx3 hB3)
  clear hst hB1 hx2 hB2 hx3 hB3
  go_wp2_with fail
  obtain ⟨hx3, hB3⟩ := HF3.out
  clear HF3 k0 k1 k2 f0 f1 f2
  have hlt3 := blk_lt hx3
  unfold W3s at hx3 hB3 hlt3
  generalize ((w2.setCell ⟨w1.heap.size, 0, none⟩ (.int .u64 N1)).setCell ⟨w1.heap.size, 1, none⟩ (.int .u64 g1)).setCell ⟨w1.heap.size, 2, none⟩ (.int .i64 0) = w3 at hx3 hB3 hlt3 ⊢
  refine (hfl w3 hB3).mono ?_
  rintro e w4 ⟨rfl, hP4, hC4⟩
  have hx4 := (hC4.block _ hlt3 (fun hk => by have := hlt _ hk; omega)).trans hx3
  have hC5 := (Chg.of_below hB3 okd).then_ hC4 (fun k hk => .inl hk)
  have hs4 := Nat.le_trans hB3.size hC4.size
  have hsl3 := hB3.size
  clear hfl hB3 hx3 hC4 hlt3
  by_cases hE0 : E = 0
  · subst hE0
    have hR := HR.out
    rw [if_pos rfl] at hR
    subst hR
    clear HR
    have hmm := fun W => run_makeMap (P := Tryz.prog) (w := W) (t := 97)
    have hP4d : PDisk w4.drew (orNew okd w3) p D2 := hP4.step (w1 := w4.drew) (fun _ _ _ => rfl)
    have hx4d : w4.drew.heap[w1.heap.size]? = some (.cells #[.int .u64 N1, .int .u64 g1, .int .i64 0] 29 (0, 0)) := hx4
    have hba := base_any hP4d 0 (by omega)
    have hsi := size_any hP4d
    rw [baseM_n hn2] at hba
    rw [sizeM_n hn2] at hsi
    have hne := hnew_ok hP4d (baseM D 0) (sizeM D) g1 hnw
    have HP := hid (And.intro hP4.bound (And.intro hC5 hs4))
    clear hP4 hC5 hP4d hnw
    go_wp2_with fail
    refine wp_region_plan [] (.take 0 (.take 1 (.take 3 (.take 5 (.take 6 (.run 2 (.run 4 (.run 7 (.take 8 (.take 9 (.take 10 (.take 11 (.take 12 .done))))))))))))) (fun W => W.heap[w1.heap.size]? = some (.cells #[.int .u64 N1, .int .u64 g1, .int .i64 0] 29 (0, 0))) (by kernel_rfl) (by kernel_rfl) (fun c a d v w h => by cases d <;> exact h) hx4d ?_
    iterate 5 (apply plan_take rfl rfl; (case hy => (intro w' hS; have s1 := cell_of_row _ _ 1 _ _ _ hS; simp at s1; clear hS; go_simp; try exact rfl)); go_simp)
    refine plan_run_on rfl rfl (fun J hJ => ?_)
    go_simp
    refine hba.mono ?_
    rintro e W' ⟨rfl, rfl⟩
    refine hJ _ _ _ (fun _ h => h) hx4d ?_
    clear hJ J
    refine plan_run_on rfl rfl (fun J hJ => ?_)
    go_simp
    refine hsi.mono ?_
    rintro e W' ⟨rfl, rfl⟩
    refine hJ _ _ _ (fun _ h => h) hx4d ?_
    clear hJ J
    refine plan_run_on rfl rfl (fun J hJ => ?_)
    go_simp
    refine hne.mono ?_
    rintro e w5 ⟨rfl, hh5, hB5⟩
    have hx5 := (hB5.block _ (blk_lt hx4d)).trans hx4d
    refine hJ _ _ _ (fun _ h => h) hx5 ?_
    clear hJ J hba hsi hne
    iterate 5 (apply plan_take rfl rfl; (case hy => (intro w' hS; clear hS; go_simp; try exact rfl)); go_simp)
    refine plan_done ?_
    have hB5' : Below w4.heap.size w4 w5 := (below_drew (Below.refl w4.heap.size w4)).trans hB5
    have hM := MapV.made Tryz.prog 9 w5
    have hx6 := (Below.heap_alloc w5 (.map #[] 0) _ (blk_lt hx5)).trans hx5
    have hh6 := hh5.step (Below.heap_alloc w5 (.map #[] 0) _ hh5.lt)
    have hB6 := below_step hB5' (below_alloc (Below.refl _ _) (.map #[] 0))
    have hsz6 : (w5.alloc (.map #[] 0)).heap.size = w5.heap.size + 1 := World.size_alloc _ _
    have hltM := hM.lt
    have hlth := hh6.lt
    have hb7 := heap_alloc_new (w5.alloc (.map #[] 0)) (.cells #[.pointer (some ⟨p, 0, none⟩), .int .u64 N1, .int .u64 g1, .int .i64 0, .pointer (some ⟨w4.heap.size, 0, none⟩), .map (some w5.heap.size), .nilIface] 101)
    have hM7 := hM.block (Below.heap_alloc (w5.alloc (.map #[] 0)) (.cells #[.pointer (some ⟨p, 0, none⟩), .int .u64 N1, .int .u64 g1, .int .i64 0, .pointer (some ⟨w4.heap.size, 0, none⟩), .map (some w5.heap.size), .nilIface] 101) _ hltM)
    have hh7 := hh6.step (Below.heap_alloc (w5.alloc (.map #[] 0)) (.cells #[.pointer (some ⟨p, 0, none⟩), .int .u64 N1, .int .u64 g1, .int .i64 0, .pointer (some ⟨w4.heap.size, 0, none⟩), .map (some w5.heap.size), .nilIface] 101) _ hlth)
    rw [hsz6] at hb7
    have hB7 := below_step hB6 (below_alloc (Below.refl _ _) (.cells #[.pointer (some ⟨p, 0, none⟩), .int .u64 N1, .int .u64 g1, .int .i64 0, .pointer (some ⟨w4.heap.size, 0, none⟩), .map (some w5.heap.size), .nilIface] 101))
    have k0 := cell_of_row _ _ 0 _ _ _ hx5
    have k1 := cell_of_row _ _ 1 _ _ _ hx5
    have k2 := cell_of_row _ _ 2 _ _ _ hx5
    simp at k0 k1 k2
    have hs5 : w4.heap.size ≤ w5.heap.size := hB5'.size
    have HF := hid (And.intro hb7 (And.intro hM7 (And.intro hh7 hB7)))
    clear hb7 hM7 hh7 hB7 hx6 hh6 hB6 hB5 hB5' hx5 hM hx4 hx4d hh5
    go_wp2_with fail
    go_ret2
    obtain ⟨hb7, hM7, hh7, hB7⟩ := HF.out
    obtain ⟨hP4, hC5, hs4'⟩ := HP.out
    refine ⟨_, rfl, ⟨_, _, fun k => w4.heap.size ≤ k, rfl, hP4.step (fun k hk hlt => hB7.block k hlt), ⟨fun _ => False, w4.heap.size, w5.heap.size, .nilIface, ?_⟩, fun k hk hk2 => by have := hk.2; omega, fun k hk => hk.1.elim .inl (fun h => .inr (Nat.le_trans hsl3 h)), fun k hk => by omega⟩, hC5.same hB7⟩
    refine ⟨?_, Nat.le_refl _, hs5, fun k hk => hk.elim, hb7, hh7, ⟨fun _ => none, hM7, fun k => rfl⟩, rfl, fun db e => by cases e⟩
    show w4.heap.size ≤ w5.heap.size + 1
    omega
  · have hE2 : (E != 0) = true := by simpa using hE0
    have hR := HR.out
    rw [if_neg hE0] at hR
    subst hR
    clear HR hx4 hw2 hn2 hwf2 hf hpN hsg hok hnw u1 u2
    go_wp2
    go_ret2
    exact ⟨_, rfl, ⟨rfl, hP4.mono (fun k hk => hk.elim .inl (fun h => .inr (Nat.le_trans hsl3 h)))⟩, hC5⟩
end Go.Proofs.YticogmpafehomaaGreatDoor

set_option linter.unusedVariables false
set_option linter.unusedSimpArgs false
namespace Go.Proofs.YticogmpafehomaaGreatDoor
open Go.RowKit Go.Maps Go.Proofs.YticogmpafehomaaGreatDoorW.PrintWords Go.Proofs.YticogmpafehomaaGreatDoorW.PrintMore

theorem shalf_any {w : World} {okd ok : Nat → Prop} {p pd : Nat} {S : SM} (h : PSto w ok p pd S) (hd : PDisk w okd pd S.D) :
    Calls Tryz.prog 30 #[.pointer (some ⟨p, 0, none⟩)] w fun e w' => e = .returned (.int .i64 (sizeM S.D)) ∧ w = w' := by
  obtain ⟨okr, hb, mb, dv, h⟩ := h
  have c0 := h.blk.c0
  have hs := size_any hd
  go_enter Tryz.func30, Tryz.ntmps30
  go_wp2_with (go_at_call 68; refine hs.mono ?_; rintro e w' ⟨rfl, rfl⟩)
  go_ret
  exact ⟨rfl, rfl⟩
theorem sused_any {w : World} {ok : Nat → Prop} {p pd : Nat} {S : SM} (h : PSto w ok p pd S) :
    Calls Tryz.prog 31 #[.pointer (some ⟨p, 0, none⟩)] w fun e w' => e = .returned (.int .i64 S.H.tail) ∧ w = w' := by
  obtain ⟨okr, hb, mb, dv, h⟩ := h
  have c4 := h.blk.c4
  have hs := used_any h.log
  go_enter Tryz.func31, Tryz.ntmps31
  go_wp2_with (go_at_call 79; refine hs.mono ?_; rintro e w' ⟨rfl, rfl⟩)
  go_ret
  exact ⟨rfl, rfl⟩
theorem sman_any {w : World} {ok : Nat → Prop} {p pd : Nat} {S : SM} (h : PSto w ok p pd S) :
    Calls Tryz.prog 56 #[.pointer (some ⟨p, 0, none⟩)] w fun e w' => e = .returned (manV S.m) ∧ Below w.heap.size w w' := by
  obtain ⟨okr, hb, mb, dv, h⟩ := h
  have hz := heap_alloc_new w (.cells #[.int .u64 0, .int .u64 0, .int .i64 0] 29)
  have hb0 := below_alloc (Below.refl w.heap.size w) (.cells #[.int .u64 0, .int .u64 0, .int .i64 0] 29)
  have hs := h.blk.step (Below.heap_alloc w (.cells #[.int .u64 0, .int .u64 0, .int .i64 0] 29) _ h.blk.lt)
  have hlt := blk_lt hz
  generalize hw1 : w.alloc (.cells #[.int .u64 0, .int .u64 0, .int .i64 0] 29) = w1 at hz hb0 hs hlt
  have c1 := hs.c1
  have c2 := hs.c2
  have c3 := hs.c3
  have z0 := cell_of_row _ _ 0 _ _ _ hz
  have z1 := cell_of_row _ _ 1 _ _ _ hz
  have z2 := cell_of_row _ _ 2 _ _ _ hz
  have f0 := frozen_of_row _ _ 0 _ _ hz
  have f1 := frozen_of_row _ _ 1 _ _ hz
  have f2 := frozen_of_row _ _ 2 _ _ hz
  simp at z0 z1 z2
  have hz2 := set3 hz (.int .u64 S.m.N) (.int .u64 S.m.G) (.int .i64 S.m.K)
  have hb2 := below3 hb0 (Nat.le_refl w.heap.size) (.int .u64 S.m.N) (.int .u64 S.m.G) (.int .i64 S.m.K)
  have HF := hid (And.intro hz2 hb2)
  clear hz2 hb2 hz hb0 hs h
  go_enter Tryz.func56, Tryz.ntmps56
  go_wp2
  refine bodyPost_ret (results_cell_row rfl _ _ w.heap.size 29 _ _ _ rfl HF.out.1 Tryz.underlying29 rfl (by kernel_rfl)) rfl ?_
  exact ⟨rfl, HF.out.2⟩
theorem sdead_any {w : World} {ok : Nat → Prop} {p pd : Nat} {S : SM} (h : PSto w ok p pd S) :
    Calls Tryz.prog 32 #[.pointer (some ⟨p, 0, none⟩)] w fun e w' => e = .returned (.bool S.dead) ∧ w = w' := by
  obtain ⟨okr, hb, mb, dv, h⟩ := h
  have c6 := h.blk.c6
  have hd := h.dead
  have hu := Tryz.underlying99
  unfold DeadV at hd
  split at hd
  · rename_i hq
    obtain ⟨db, x, rfl, hdb⟩ := hd
    rw [hq]
    go_enter Tryz.func32, Tryz.ntmps32
    go_wp2
    go_ret
    exact ⟨rfl, rfl⟩
  · rename_i hq
    subst hd
    rw [show S.dead = false from by simpa using hq]
    go_enter Tryz.func32, Tryz.ntmps32
    go_wp2
    go_ret
    exact ⟨rfl, rfl⟩
theorem zero_bytes (w : World) : (zeroValue 25).run Tryz.prog w = .ok (.slice none 0 0) w := by kernel_rfl
/-- An entry's lookup. -/
theorem EMap.look {w : World} {ok : Nat → Prop} {mb : Nat} {E : Ent} (h : EMap w ok mb E) {k : ByteArray} (hk : k.size ≤ 9223372036854775807) :
    ∃ A n c, (Instr.lookup 97 (.map (some mb)) (.string k) true).run Tryz.prog w = .ok (.tuple #[.slice A n c, .bool (Proofs.YticogmpafehomaaGreatDoor.look E k).isSome]) w ∧ (Instr.lookup 97 (.map (some mb)) (.string k) false).run Tryz.prog w = .ok (.slice A n c) w ∧
    n = ((Proofs.YticogmpafehomaaGreatDoor.look E k).getD []).length ∧ n ≤ c ∧ RB w ok A ((Proofs.YticogmpafehomaaGreatDoor.look E k).getD []) := by
  obtain ⟨f, h1, h2⟩ := h
  have r1 := h1.look_ok (t := 97) (e := 25) Tryz.underlying9 Tryz.underlying97 (zero_bytes w) (s := k) hk
  have r2 := h1.look (t := 97) (e := 25) Tryz.underlying9 Tryz.underlying97 (zero_bytes w) (s := k) hk
  have h3 := h2 k
  cases hl : Proofs.YticogmpafehomaaGreatDoor.look E k with
  | none =>
    rw [hl] at h3
    rw [show f k = none from h3] at r1 r2
    exact ⟨none, 0, 0, r1, r2, rfl, Nat.le_refl _, RB_nil _ _ 0⟩
  | some bs =>
    rw [hl] at h3
    obtain ⟨A, c, e1, e2, e3⟩ := h3
    rw [e1] at r1 r2
    exact ⟨A, bs.length, c, r1, r2, rfl, e2, e3⟩
set_option maxHeartbeats 1000000 in
theorem sget_any {w : World} {ok : Nat → Prop} {p pd : Nat} {S : SM} (h : PSto w ok p pd S) (hwf : S.wf) (k : ByteArray) (hk : k.size ≤ 9223372036854775807) :
    Calls Tryz.prog 21 #[.pointer (some ⟨p, 0, none⟩), .string k] w fun e w' => ∃ A c, e = .returned (.tuple #[.slice A ((look S.E k).getD []).length c, .bool (look S.E k).isSome]) ∧ KB.R 5 w' w.heap.size (fun k => w.heap.size ≤ k) (.slice A ((look S.E k).getD []).length c) ((look S.E k).getD []) ∧ Below w.heap.size w w' := by
  obtain ⟨okr, hb, mb, dv, h⟩ := h
  have c5 := h.blk.c5
  obtain ⟨A, n, c, r1, _, rfl, hn, hR⟩ := h.ent.look hk
  have hlen : ((look S.E k).getD []).length ≤ 131072 := by
    cases hl : look S.E k with
    | none => simp
    | some bs => exact (hwf.ent _ (look_mem hl)).2.2
  generalize (look S.E k).isSome = b at r1 ⊢
  generalize (look S.E k).getD [] = bs at r1 hn hR hlen ⊢
  have hcl := clone_any (c := c) (Kd.F_now hR) (by omega)
  clear hR h
  go_enter Tryz.func21, Tryz.ntmps21
  go_wp2_with fail
  refine hcl.mono ?_
  rintro e w1 ⟨A', c', rfl, hR, hB⟩
  have HF := hid (And.intro hR hB)
  clear hR hB hcl r1
  go_wp2
  go_ret2
  exact ⟨A', c', rfl, HF.out⟩
/-- met: nothing has happened. -/
theorem met_ok {w : World} (p : Option Addr) : Calls Tryz.prog 104 #[.pointer p, .int .i64 0] w fun e w' => e = .returned (.int .i64 0) ∧ w = w' := by
  go_enter Tryz.func104, Tryz.ntmps104
  go_wp2
  go_ret
  exact ⟨rfl, rfl⟩
theorem met_err {w : World} {ok okr : Nat → Prop} {p pd hb mb : Nat} {dv : Value} {S : SM} (h : PSb w ok okr p pd hb mb dv S) {E : Int} (hE : ¬ E = 0) :
    Calls Tryz.prog 104 #[.pointer (some ⟨p, 0, none⟩), .int .i64 E] w fun e w' => e = .returned (.int .i64 E) ∧ PSb w' (orNew ok w) okr p pd hb mb (.iface 159 (.pointer (some ⟨w.heap.size, 0, none⟩))) { S with dead := true } ∧ Chg (fun k => k = p) w w' := by
  have hE2 : (E != 0) = true := by simpa using hE
  have hB := below_alloc (Below.refl w.heap.size w) (.cells #[.int .i64 E] 215)
  have h1 := h.step (w1 := w.alloc (.cells #[.int .i64 E] 215)) (fun k _ hk => hB.block k hk)
  have hd1 := heap_alloc_new w (.cells #[.int .i64 E] 215)
  have hplt := h.blk.lt
  have hne := h1.ne
  have hlt1 := blk_lt hd1
  generalize hw1 : w.alloc (.cells #[.int .i64 E] 215) = w1 at hB h1 hd1 hlt1
  have c6 := h1.blk.c6
  have f6 := h1.blk.free 6
  have hs : ∀ k, k ≠ p → (w1.setCell ⟨p, 6, none⟩ (.iface 159 (.pointer (some ⟨w.heap.size, 0, none⟩)))).heap[k]? = w1.heap[k]? := fun k hk => Below.heap_setCell w1 ⟨p, 6, none⟩ _ k hk
  have hfin : PSb (w1.setCell ⟨p, 6, none⟩ (.iface 159 (.pointer (some ⟨w.heap.size, 0, none⟩)))) (orNew ok w) okr p pd hb mb (.iface 159 (.pointer (some ⟨w.heap.size, 0, none⟩))) { S with dead := true } :=
    ⟨.inl h1.okp, .inl h1.okh, .inl h1.okm, fun k hk => by have := h1.rows k hk; exact ⟨.inl this.1, by simpa [World.setCell] using this.2.1, this.2.2⟩, h1.blk.setDead _, h1.log.step (hs _ hne.1.symm), h1.ent.step (hs _ hne.2.1.symm) (fun k hk _ => hs k (h1.rows k hk).2.2.1),
      by show DeadV _ true _; unfold DeadV; rw [if_pos rfl]; exact ⟨w.heap.size, E, rfl, (hs _ (by omega)).trans hd1⟩,
      fun db e => by injection e with _ e; injection e with e; injection e with e; injection e with e; exact .inr (by omega)⟩
  have hc : Chg (fun k => k = p) w (w1.setCell ⟨p, 6, none⟩ (.iface 159 (.pointer (some ⟨w.heap.size, 0, none⟩)))) := Chg.setCell (S := fun k => k = p) (Chg.of_below hB _) (p := ⟨p, 6, none⟩) (.inl rfl) _
  have HF := hid (And.intro hfin hc)
  clear hfin hc hs h1 hB h hd1
  go_enter Tryz.func104, Tryz.ntmps104
  go_wp2
  go_ret
  exact ⟨rfl, HF.out⟩
theorem as_nil {w : World} (v : Value) : Calls Tryz.prog 102 #[.nilIface, v] w fun e w' => e = .returned (.bool false) ∧ w = w' := by
  have hu := Tryz.underlying99
  go_enter Tryz.func102, Tryz.ntmps102
  go_wp2
  go_ret
  exact ⟨rfl, rfl⟩
theorem may_alive {w : World} {ok : Nat → Prop} {p pd : Nat} {S : SM} (h : PSto w ok p pd S) (hd : S.dead = false) (k : ByteArray) :
    Calls Tryz.prog 58 #[.pointer (some ⟨p, 0, none⟩), .string k] w fun e w' => e = .returned (.int .i64 (if keyedB k then 0 else 1)) ∧ Below w.heap.size w w' := by
  have hB := below_alloc (Below.refl w.heap.size w) (.cells #[.pointer none] 159)
  obtain ⟨okr, hb, mb, dv, h⟩ := h
  have hs := h.blk.step (hB.block _ h.blk.lt)
  have c6 := hs.c6
  have hd2 := h.dead
  unfold DeadV at hd2
  rw [if_neg (by simp [hd])] at hd2
  subst hd2
  have ha := fun W v => as_nil (w := W) v
  have hk := fun W => keyed_any (w := W) k
  clear hs h
  by_cases hq : keyedB k
  · rw [decide_eq_true hq] at hk
    rw [if_pos hq]
    go_enter Tryz.func58, Tryz.ntmps58
    go_wp2_with (first | (go_at_call 102; refine (ha _ _).mono ?_; rintro e w' ⟨rfl, rfl⟩) | (go_at_call 51; refine (hk _).mono ?_; rintro e w' ⟨rfl, rfl⟩))
    go_ret
    exact ⟨rfl, hB⟩
  · rw [decide_eq_false hq] at hk
    rw [if_neg hq]
    go_enter Tryz.func58, Tryz.ntmps58
    go_wp2_with (first | (go_at_call 102; refine (ha _ _).mono ?_; rintro e w' ⟨rfl, rfl⟩) | (go_at_call 51; refine (hk _).mono ?_; rintro e w' ⟨rfl, rfl⟩))
    go_ret
    exact ⟨rfl, hB⟩
end Go.Proofs.YticogmpafehomaaGreatDoor

namespace Go.Proofs
open Go.Shelf
def Tryz.lays190_ren : Go.Shelf.Ren := ⟨fun | 190 => 155 | 125 => 180 | 258 => 179 | 128 => 200 | 129 => 201 | 302 => 191 | 303 => 192 | 304 => 193 | 305 => 194 | 306 => 195 | 307 => 196 | 308 => 197 | 309 => 198 | 310 => 199 | 333 => 206 | 329 => 207 | 330 => 208 | 334 => 209 | 335 => 210 | 336 => 211 | 344 => 214 | n => n, fun | 31 => 57 | 9 => 9 | 3 => 3 | 46 => 150 | 0 => 0 | 51 => 270 | 53 => 22 | 4 => 4 | 183 => 262 | 182 => 261 | 131 => 267 | 5 => 5 | 218 => 275 | 222 => 278 | 228 => 281 | 229 => 282 | n => n, fun | n => n⟩
theorem Tryz.lays190 : Go.Proofs.Lays.n190 Tryz.prog Tryz.lays190_ren := {
  mixed := by kernel_rfl
  f125 := Tryz.func180.trans (congrArg some (by kernel_rfl))
  f128 := Tryz.func200.trans (congrArg some (by kernel_rfl))
  f129 := Tryz.func201.trans (congrArg some (by kernel_rfl))
  f190 := Tryz.func155.trans (congrArg some (by kernel_rfl))
  f258 := Tryz.func179.trans (congrArg some (by kernel_rfl))
  f302 := Tryz.func191.trans (congrArg some (by kernel_rfl))
  f303 := Tryz.func192.trans (congrArg some (by kernel_rfl))
  f304 := Tryz.func193.trans (congrArg some (by kernel_rfl))
  f305 := Tryz.func194.trans (congrArg some (by kernel_rfl))
  f306 := Tryz.func195.trans (congrArg some (by kernel_rfl))
  f307 := Tryz.func196.trans (congrArg some (by kernel_rfl))
  f308 := Tryz.func197.trans (congrArg some (by kernel_rfl))
  f309 := Tryz.func198.trans (congrArg some (by kernel_rfl))
  f310 := Tryz.func199.trans (congrArg some (by kernel_rfl))
  f329 := Tryz.func207.trans (congrArg some (by kernel_rfl))
  f330 := Tryz.func208.trans (congrArg some (by kernel_rfl))
  f333 := Tryz.func206.trans (congrArg some (by kernel_rfl))
  f334 := Tryz.func209.trans (congrArg some (by kernel_rfl))
  f335 := Tryz.func210.trans (congrArg some (by kernel_rfl))
  f336 := Tryz.func211.trans (congrArg some (by kernel_rfl))
  f344 := Tryz.func214.trans (congrArg some (by kernel_rfl))
  t0 := Tryz.underlying0
  a0 := Tryz.isAgg0
  z0 := Tryz.sizeOf0
  v0 := Tryz.zeroValue0
  t3 := Tryz.underlying3
  a3 := Tryz.isAgg3
  z3 := Tryz.sizeOf3
  v3 := Tryz.zeroValue3
  t4 := Tryz.underlying4
  a4 := Tryz.isAgg4
  z4 := Tryz.sizeOf4
  v4 := Tryz.zeroValue4
  t5 := Tryz.underlying5
  a5 := Tryz.isAgg5
  z5 := Tryz.sizeOf5
  v5 := Tryz.zeroValue5
  t9 := Tryz.underlying9
  a9 := Tryz.isAgg9
  z9 := Tryz.sizeOf9
  v9 := Tryz.zeroValue9
  t31 := Tryz.underlying57
  a31 := Tryz.isAgg57
  z31 := Tryz.sizeOf57
  v31 := Tryz.zeroValue57
  t46 := Tryz.underlying150
  a46 := Tryz.isAgg150
  z46 := Tryz.sizeOf150
  v46 := Tryz.zeroValue150
  t51 := Tryz.underlying270
  a51 := Tryz.isAgg270
  z51 := Tryz.sizeOf270
  v51 := Tryz.zeroValue270
  t53 := Tryz.underlying22
  a53 := Tryz.isAgg22
  z53 := Tryz.sizeOf22
  v53 := Tryz.zeroValue22
  t131 := Tryz.underlying267
  a131 := Tryz.isAgg267
  z131 := Tryz.sizeOf267
  v131 := Tryz.zeroValue267
  t182 := Tryz.underlying261
  a182 := Tryz.isAgg261
  z182 := Tryz.sizeOf261
  v182 := Tryz.zeroValue261
  t183 := Tryz.underlying262
  a183 := Tryz.isAgg262
  z183 := Tryz.sizeOf262
  v183 := Tryz.zeroValue262
  t218 := Tryz.underlying275
  a218 := Tryz.isAgg275
  z218 := Tryz.sizeOf275
  v218 := Tryz.zeroValue275
  t222 := Tryz.underlying278
  a222 := Tryz.isAgg278
  z222 := Tryz.sizeOf278
  v222 := Tryz.zeroValue278
  t228 := Tryz.underlying281
  a228 := Tryz.isAgg281
  z228 := Tryz.sizeOf281
  v228 := Tryz.zeroValue281
  t229 := Tryz.underlying282
  a229 := Tryz.isAgg282
  z229 := Tryz.sizeOf282
  v229 := Tryz.zeroValue282 }
open Go.Sort Go.RowKit in
theorem Tryz.slices_Sort_string (blk off cap : Nat) (ss : List (List UInt8)) (w : World) (hH : Holds encStr w blk off ss.toArray) (hblk : blk < w.heap.size) (hsz : ss.length < 4611686018427387904) :
    Calls Tryz.prog 155 #[.slice (some ⟨blk, off, none⟩) ss.length cap] w fun e w' =>
      e = .returned (.tuple #[]) ∧ ∃ n os, w' = grow (putRow encStr (Sort.ahead w n) blk off (ss.mergeSort fun x y => decide (x ≤ y)).toArray) os := Any.slices_Sort_string Tryz.lays190 blk off cap ss w hH hblk hsz
def Tryz.lays194_ren : Go.Shelf.Ren := ⟨fun | 194 => 156 | n => n, fun | 31 => 57 | 9 => 9 | 3 => 3 | 4 => 4 | 0 => 0 | n => n, fun | n => n⟩
theorem Tryz.lays194 : Go.Proofs.Lays.n194 Tryz.prog Tryz.lays194_ren := {
  mixed := by kernel_rfl
  f194 := Tryz.func156.trans (congrArg some (by kernel_rfl))
  t0 := Tryz.underlying0
  a0 := Tryz.isAgg0
  z0 := Tryz.sizeOf0
  v0 := Tryz.zeroValue0
  t3 := Tryz.underlying3
  a3 := Tryz.isAgg3
  z3 := Tryz.sizeOf3
  v3 := Tryz.zeroValue3
  t4 := Tryz.underlying4
  a4 := Tryz.isAgg4
  z4 := Tryz.sizeOf4
  v4 := Tryz.zeroValue4
  t9 := Tryz.underlying9
  a9 := Tryz.isAgg9
  z9 := Tryz.sizeOf9
  v9 := Tryz.zeroValue9
  t31 := Tryz.underlying57
  a31 := Tryz.isAgg57
  z31 := Tryz.sizeOf57
  v31 := Tryz.zeroValue57 }
open Go.RowKit Go.Lib Go.Sort in
theorem Tryz.slices_Compact_string (blk off cap : Nat) (zs : List (List UInt8)) (w : World) (hH : Holds encStr w blk off zs.toArray) (hsz : zs.length ≤ 9223372036854775807) (hcap : zs.length ≤ cap) :
    Calls Tryz.prog 156 #[.slice (some ⟨blk, off, none⟩) zs.length cap] w fun e w' => e = .returned (.slice (some ⟨blk, off, none⟩) (Lib.compact zs).length cap) ∧ ∃ q, w' = putRow encStr (Sort.ahead w q) blk off (Lib.compact zs ++ List.replicate (zs.length - (Lib.compact zs).length) []).toArray := Any.slices_Compact_string Tryz.lays194 blk off cap zs w hH hsz hcap
open Go.RowKit Go.Lib Go.Sort in
theorem Tryz.slices_Compact_string_empty (a : Option Addr) (cap : Nat) (w : World) :
    Calls Tryz.prog 156 #[.slice a 0 cap] w fun e w' => e = .returned (.slice a 0 cap) ∧ w' = w := Any.slices_Compact_string_empty Tryz.lays194 a cap w
open Go.RowKit Go.Sort in
theorem Tryz.slices_Sort_string_none (p : Option Addr) (cap : Nat) (w : World) :
    Calls Tryz.prog 155 #[.slice p 0 cap] w fun e w' => e = .returned (.tuple #[]) ∧ w' = w := Any.slices_Sort_string_none Tryz.lays190 p cap w
end Go.Proofs

set_option linter.unusedVariables false
set_option linter.unusedSimpArgs false
namespace Go.Proofs.YticogmpafehomaaGreatDoor
open Go.RowKit Go.Sort Go.Proofs.YticogmpafehomaaGreatDoorW.PrintWords

abbrev KS : Kd ByteArray := Kd.string
theorem KS_none {w : World} {xs : List ByteArray} (h : KS.C w none xs.length xs) : xs = [] := by
  obtain ⟨_, _, h3⟩ := h
  cases xs with
  | nil => rfl
  | cons x xs =>
    obtain ⟨ad, e, _⟩ := h3 (by simp)
    cases e
/-- A text of a row that is read. -/
theorem KS_at {w : World} {ad : Addr} {n : Nat} {l : List ByteArray} (h : KS.C w (some ad) n l) {i : Nat} (hi : i < l.length) : w.cell? (ad.add i) = some (.string l[i]) := by
  have hn : l.length = n := h.1
  obtain ⟨ad', cs, hA, hcs, hK, hcell⟩ := Kd.C_get h ByteArray.empty (i : Int) (by omega) (by omega)
  injection hA with hA
  subst hA
  simp only [Int.toNat_natCast] at hK hcell
  have hget : l.getD i ByteArray.empty = l[i] := by simp [List.getD_eq_getElem?_getD, hi]
  rw [hget] at hK
  have h3 : cs = [.string l[i]] := hK
  subst h3
  have := hcell 0 _ rfl
  have hsz : Kd.string.sz = 1 := rfl
  rw [hsz, Nat.mul_one] at this
  simpa using this
set_option maxRecDepth 100000 in
theorem sclone_some {w : World} {a : Addr} {c : Nat} {l : List ByteArray} (h : KS.C w (some a) l.length l) (hl : l.length * 16 ≤ 140737488355328) :
  Calls Tryz.prog 154 #[.slice (some a) l.length c] w fun e w' => ∃ v, e = .returned v ∧ KS.R 9 w' w.heap.size (fun _ => True) v l ∧ Below w.heap.size w w' := by
  have hq := fun w => Lib.run_eql_slice_nil (P := Tryz.prog) w 57 9 (some a) l.length c 0 0 Tryz.underlying57
  go_enter Tryz.func154, Tryz.ntmps154
  go_wp2_with (at_builtin; refine Kd.R_append_rows KS (w0 := w) w.heap.size rfl (.tmp 5) (.tmp 6) 57 9 (.string ⟨#[]⟩) 16 rfl Tryz.underlying57 info_str rfl (by decide) (by decide) _ [] l (some a) l.length c (fun _ => True) (fun _ => False) rfl rfl ?HO ?HR (fun _ _ h => h) (fun _ h => h.elim) (fun _ _ => trivial) ?HB ?hb ?hl ?_)
  case HO => exact Kd.R_of_own (World.ownsRow_made (base := w.heap.size) w #[] 0 (Nat.le_refl _) (Nat.zero_le _) rfl) (fun _ _ => trivial)
  case HR => exact Kd.C_below h (below_alloc (Below.refl _ _) _)
  case HB => exact below_alloc (Below.refl _ _) _
  case hb => simp
  case hl => simp; omega
  intro v1 w1 hR hb hg hat
  go_wp2
  go_ret
  exact ⟨v1, rfl, by simpa using hR, hb⟩
set_option maxRecDepth 100000 in
theorem sclone_none {w : World} {n c : Nat} :
  Calls Tryz.prog 154 #[.slice none n c] w fun e w' => e = .returned (.slice none 0 0) ∧ w = w' := by
  have hq := fun w => Lib.run_eql_slice_nil (P := Tryz.prog) w 57 9 none n c 0 0 Tryz.underlying57
  go_enter Tryz.func154, Tryz.ntmps154
  go_wp2
  go_ret
  exact ⟨rfl, rfl⟩
theorem KS_own {w : World} {base : Nat} {v : Value} {l : List ByteArray} (h : KS.R 9 w base (fun _ => True) v l) : ∃ A' c', v = .slice A' l.length c' ∧ KS.R 9 w base (fun k => base ≤ k) v l := by
  obtain ⟨A', c', he⟩ := Kd.R_slice h
  exact ⟨A', c', he, Kd.R_mono (Kd.R_bound h) (fun k hk => hk.2.1)⟩
theorem sclone_any {w : World} {A : Option Addr} {c : Nat} {l : List ByteArray} (h : KS.C w A l.length l) (hl : l.length * 16 ≤ 140737488355328) :
  Calls Tryz.prog 154 #[.slice A l.length c] w fun e w' => ∃ A' c', e = .returned (.slice A' l.length c') ∧ KS.R 9 w' w.heap.size (fun k => w.heap.size ≤ k) (.slice A' l.length c') l ∧ Below w.heap.size w w' := by
  cases A with
  | none =>
    obtain rfl := KS_none h
    refine sclone_none.mono ?_
    rintro e w' ⟨rfl, rfl⟩
    exact ⟨none, 0, rfl, Kd.R_nil _ _ _ _ _, Below.refl _ _⟩
  | some a =>
    refine (sclone_some h hl).mono ?_
    rintro e w' ⟨v, rfl, hR, hb⟩
    obtain ⟨A', c', rfl, hR'⟩ := KS_own hR
    exact ⟨A', c', rfl, hR', hb⟩
theorem encs_tx (l : List BL) : encs Value.string (l.map tx) = l.map encStr := by unfold encs; rw [List.map_map]; rfl
theorem map_enc (l : List ByteArray) : l.map Value.string = (l.map bl).map encStr := by
  rw [List.map_map]
  refine List.map_congr_left (fun x _ => ?_)
  show Value.string x = Value.string (tx (bl x))
  rw [tx_bl]
set_option maxRecDepth 100000 in
theorem set_any {w : World} {A : Option Addr} {c : Nat} {l : List ByteArray} (h : KS.C w A l.length l) (hl : l.length * 16 ≤ 140737488355328) :
  Calls Tryz.prog 118 #[.slice A l.length c] w fun e w' => ∃ A' c', e = .returned (.slice A' (setS l).length c') ∧ KS.R 9 w' w.heap.size (fun k => w.heap.size ≤ k) (.slice A' (setS l).length c') (setS l) ∧ Below w.heap.size w w' := by
  have hcl := sclone_any (c := c) h hl
  go_enter Tryz.func118, Tryz.ntmps118
  go_wp2_with fail
  refine hcl.mono ?_
  rintro e w1 ⟨A1, c1, rfl, hR1, b1⟩
  clear hcl
  rcases Nat.eq_zero_or_pos l.length with h0 | h0
  · have hl0 : l = [] := List.eq_nil_of_length_eq_zero h0
    subst hl0
    have hs0 : setS [] = [] := setS_eq (by unfold Sorted; simp) (fun _ => Iff.rfl)
    have HS0 := hid hs0
    clear hs0
    simp only [List.length_nil] at hR1 ⊢
    go_wp2_with fail
    refine (Tryz.slices_Sort_string_none _ _ _).mono ?_
    rintro e w2 ⟨rfl, rfl⟩
    go_wp2_with fail
    refine (Tryz.slices_Compact_string_empty _ _ _).mono ?_
    rintro e w2 ⟨rfl, rfl⟩
    go_wp2
    go_ret
    exact ⟨A1, c1, by rw [HS0.out]; rfl, by rw [HS0.out]; exact hR1, b1⟩
  · have hown := Kd.own_of_R hR1
    rcases hown.2 with ⟨_, hz⟩ | ⟨g, cap, cur, hv, hbase, hb, e1, e2, e3, e4⟩
    · omega
    · injection hv with hv1 hv2 hv3
      subst hv1 hv3
      have hH : Holds encStr w1 g 0 (l.map bl).toArray := holds_of_block hb (by
        rw [List.length_map]
        have : encs Value.string l = (l.map bl).map encStr := map_enc l
        rw [← this]
        simpa using e4)
      have hst := Tryz.slices_Sort_string g 0 c1 (l.map bl) w1 hH (blk_lt hb) (by rw [List.length_map]; omega)
      rw [List.length_map] at hst
      have hml : ((l.map bl).mergeSort fun x y => decide (x ≤ y)).length = l.length := by simp
      have hset : setS l = (Lib.compact ((l.map bl).mergeSort fun x y => decide (x ≤ y))).map tx := rfl
      have hsl : (Lib.compact ((l.map bl).mergeSort fun x y => decide (x ≤ y))).length = (setS l).length := by rw [hset, List.length_map]
      have hle := setS_len l
      generalize ((l.map bl).mergeSort fun x y => decide (x ≤ y)) = ms at hst hml hset hsl
      have HS := hid (And.intro hset (And.intro hsl hml))
      clear hset hsl hH
      go_wp2_with fail
      refine hst.mono ?_
      rintro e w2 ⟨rfl, n, os, hw2⟩
      obtain ⟨hset, hsl, hml⟩ := HS.out
      have hg2 : w1.grownBy w2 (some g) := by rw [hw2]; exact grownBy_sorted _
      have ho2 : w2.ownsRow w.heap.size 9 1 (.slice (some ⟨g, 0, none⟩) l.length c1) l.length (ms.map encStr) := by
        rw [hw2]
        have := ownsRow_sorted (n := n) (os := os) (ss := l.map bl) (ts := ms) (by rw [hml, List.length_map]) hbase hb (by rw [List.length_map]; exact e1) e2 (by simpa using e3)
        rw [List.length_map] at this
        exact this
      rcases ho2.2 with ⟨h1, _⟩ | ⟨g', cap', cur2, hv', hbase2, hb2, f1, f2, f3, f4⟩
      · cases h1
      · injection hv' with hv1 hv2 hv3
        injection hv1 with hv1
        injection hv1 with hv1
        subst hv1 hv3
        have hH2 : Holds encStr w2 g 0 ms.toArray := holds_of_block hb2 (by rw [hml]; simpa using f4)
        have hcm := Tryz.slices_Compact_string g 0 c1 ms w2 hH2 (by rw [hml]; omega) (by rw [hml]; exact f1)
        rw [hml, hsl] at hcm
        clear hst hw2 hH2 HS
        have HS := hid (And.intro hset (And.intro hsl hml))
        clear hset hsl hml
        go_wp2_with fail
        refine hcm.mono ?_
        rintro e w3 ⟨rfl, q, hw3⟩
        obtain ⟨hset, hsl, hml⟩ := HS.out
        have hlen : (Lib.compact ms ++ List.replicate (l.length - (setS l).length) ([] : BL)).length = l.length := by rw [List.length_append, hsl, List.length_replicate]; omega
        have hw3' : w3 = grow (putRow encStr (Sort.ahead w2 q) g 0 (Lib.compact ms ++ List.replicate (l.length - (setS l).length) []).toArray) #[] := by rw [grow_empty]; exact hw3
        have hg3 : w2.grownBy w3 (some g) := by rw [hw3']; exact grownBy_sorted _
        have ho3 : w3.ownsRow w.heap.size 9 1 (.slice (some ⟨g, 0, none⟩) l.length c1) l.length ((Lib.compact ms ++ List.replicate (l.length - (setS l).length) []).map encStr) := by
          rw [hw3']
          have := ownsRow_sorted (n := q) (os := #[]) (ss := l.map bl) (ts := Lib.compact ms ++ List.replicate (l.length - (setS l).length) []) (by rw [hlen, List.length_map]) hbase hb2 (by rw [List.length_map]; exact f1) f2 (by simpa using f3)
          rw [List.length_map] at this
          exact this
        have hR3 : KS.R 9 w3 w.heap.size (fun k => w.heap.size ≤ k) (.slice (some ⟨g, 0, none⟩) l.length c1) ((Lib.compact ms ++ List.replicate (l.length - (setS l).length) []).map tx) :=
          Kd.R_of_own (by rw [encs_tx, List.length_map, hlen]; exact ho3) (fun k hk => by
            have : g = k := by simpa [Value.ownBlock] using hk
            omega)
        have hR4 := Kd.R_take (m := (setS l).length) hR3 (by rw [List.length_map, hlen]; exact hle)
        have htk : ((Lib.compact ms ++ List.replicate (l.length - (setS l).length) ([] : BL)).map tx).take (setS l).length = setS l := by
          rw [hset, ← List.map_take, List.length_map, List.take_left]
        rw [htk] at hR4
        have hB3 : Below w.heap.size w w3 := (b1.grown hg2 b1.size (fun k hk => by cases hk; exact hbase)).grown hg3 (Nat.le_trans b1.size hg2.size) (fun k hk => by cases hk; exact hbase)
        have HF := hid (And.intro hR4 hB3)
        clear hR4 hB3 hR3 ho3 hg3 hw3 hw3' hcm hlen htk hb2 ho2 f1 f2 f3 f4 hg2 hb e1 e2 e3 e4 hown hR1 b1 hset hsl hml HS hle
        go_wp2
        go_ret
        exact ⟨_, _, rfl, HF.out⟩
end Go.Proofs.YticogmpafehomaaGreatDoor

namespace Go.Proofs
open Go.Shelf
def Tryz.keys74_ren : Go.Shelf.Ren := ⟨fun | 7 => 74 | 10 => 120 | n => n, fun | 23 => 97 | 26 => 9 | 3 => 25 | 28 => 126 | 0 => 0 | 27 => 125 | 33 => 88 | 4 => 4 | n => n, fun | n => n⟩
theorem Tryz.keys74 : Go.Proofs.SlLaysZ.n7 Tryz.prog Tryz.keys74_ren := {
  mixed := by kernel_rfl
  f7 := ⟨Tryz.f74.name, by decide, Tryz.func74.trans (congrArg some (by kernel_rfl))⟩
  f10 := ⟨Tryz.f120.name, by decide, Tryz.func120.trans (congrArg some (by kernel_rfl))⟩
  t0 := Tryz.underlying0
  a0 := Tryz.isAgg0
  z0 := Tryz.sizeOf0
  v0 := Tryz.zeroValue0
  t4 := Tryz.underlying4
  a4 := Tryz.isAgg4
  z4 := Tryz.sizeOf4
  v4 := Tryz.zeroValue4
  t23 := Tryz.underlying97
  a23 := Tryz.isAgg97
  z23 := Tryz.sizeOf97
  v23 := Tryz.zeroValue97
  t26 := Tryz.underlying9
  a26 := Tryz.isAgg9
  z26 := Tryz.sizeOf9
  v26 := Tryz.zeroValue9
  t27 := Tryz.underlying125
  a27 := Tryz.isAgg125
  z27 := Tryz.sizeOf125
  v27 := Tryz.zeroValue125
  t28 := Tryz.underlying126
  a28 := Tryz.isAgg126
  z28 := Tryz.sizeOf126
  v28 := Tryz.zeroValue126
  t33 := Tryz.underlying88
  a33 := Tryz.isAgg88
  z33 := Tryz.sizeOf88
  v33 := Tryz.zeroValue88 }
def Tryz.sorted148_ren : Go.Shelf.Ren := ⟨fun | 6 => 148 | 8 => 73 | 9 => 155 | 11 => 119 | 13 => 180 | 12 => 179 | 23 => 200 | 24 => 201 | 14 => 191 | 15 => 192 | 16 => 193 | 17 => 194 | 18 => 195 | 19 => 196 | 20 => 197 | 21 => 198 | 22 => 199 | 25 => 206 | 26 => 207 | 27 => 208 | 28 => 209 | 29 => 210 | 30 => 211 | 31 => 214 | n => n, fun | 26 => 9 | 28 => 126 | 24 => 57 | 0 => 0 | 3 => 3 | 37 => 150 | 48 => 270 | 50 => 22 | 4 => 4 | 40 => 262 | 39 => 261 | 45 => 267 | 5 => 5 | 9 => 9 | 51 => 275 | 55 => 278 | 57 => 281 | 58 => 282 | 33 => 88 | n => n, fun | n => n⟩
theorem Tryz.sorted148 : Go.Proofs.SlLaysZ.n6 Tryz.prog Tryz.sorted148_ren := {
  mixed := by kernel_rfl
  f6 := ⟨Tryz.f148.name, by decide, Tryz.func148.trans (congrArg some (by kernel_rfl))⟩
  f8 := ⟨Tryz.f73.name, by decide, Tryz.func73.trans (congrArg some (by kernel_rfl))⟩
  f11 := ⟨Tryz.f119.name, by decide, Tryz.func119.trans (congrArg some (by kernel_rfl))⟩
  t0 := Tryz.underlying0
  a0 := Tryz.isAgg0
  z0 := Tryz.sizeOf0
  v0 := Tryz.zeroValue0
  t24 := Tryz.underlying57
  a24 := Tryz.isAgg57
  z24 := Tryz.sizeOf57
  v24 := Tryz.zeroValue57
  t26 := Tryz.underlying9
  a26 := Tryz.isAgg9
  z26 := Tryz.sizeOf9
  v26 := Tryz.zeroValue9
  t28 := Tryz.underlying126
  a28 := Tryz.isAgg126
  z28 := Tryz.sizeOf126
  v28 := Tryz.zeroValue126
  i26 := by kernel_rfl }
def Tryz.sort155_ren : Go.Shelf.Ren := ⟨fun | 6 => 155 | 8 => 180 | 9 => 179 | 19 => 200 | 20 => 201 | 21 => 191 | 22 => 192 | 23 => 193 | 24 => 194 | 25 => 195 | 26 => 196 | 27 => 197 | 28 => 198 | 29 => 199 | 36 => 206 | 31 => 207 | 32 => 208 | 37 => 209 | 38 => 210 | 39 => 211 | 41 => 214 | n => n, fun | 27 => 57 | 29 => 9 | 3 => 3 | 32 => 150 | 26 => 57 | 0 => 0 | 44 => 270 | 46 => 22 | 4 => 4 | 36 => 262 | 35 => 261 | 41 => 267 | 5 => 5 | 9 => 9 | 53 => 275 | 57 => 278 | 63 => 281 | 64 => 282 | n => n, fun | n => n⟩
theorem Tryz.sort155 : Go.Proofs.SlLaysM.n6 Tryz.prog Tryz.sort155_ren := {
  mixed := by kernel_rfl
  f6 := ⟨Tryz.f155.name, by decide, Tryz.func155.trans (congrArg some (by kernel_rfl))⟩
  f8 := Tryz.func180.trans (congrArg some (by kernel_rfl))
  f9 := ⟨Tryz.f179.name, by decide, Tryz.func179.trans (congrArg some (by kernel_rfl))⟩
  f19 := Tryz.func200.trans (congrArg some (by kernel_rfl))
  f20 := Tryz.func201.trans (congrArg some (by kernel_rfl))
  f21 := ⟨Tryz.f191.name, by decide, Tryz.func191.trans (congrArg some (by kernel_rfl))⟩
  f22 := ⟨Tryz.f192.name, by decide, Tryz.func192.trans (congrArg some (by kernel_rfl))⟩
  f23 := ⟨Tryz.f193.name, by decide, Tryz.func193.trans (congrArg some (by kernel_rfl))⟩
  f24 := ⟨Tryz.f194.name, by decide, Tryz.func194.trans (congrArg some (by kernel_rfl))⟩
  f25 := ⟨Tryz.f195.name, by decide, Tryz.func195.trans (congrArg some (by kernel_rfl))⟩
  f26 := ⟨Tryz.f196.name, by decide, Tryz.func196.trans (congrArg some (by kernel_rfl))⟩
  f27 := ⟨Tryz.f197.name, by decide, Tryz.func197.trans (congrArg some (by kernel_rfl))⟩
  f28 := ⟨Tryz.f198.name, by decide, Tryz.func198.trans (congrArg some (by kernel_rfl))⟩
  f29 := ⟨Tryz.f199.name, by decide, Tryz.func199.trans (congrArg some (by kernel_rfl))⟩
  f31 := Tryz.func207.trans (congrArg some (by kernel_rfl))
  f32 := Tryz.func208.trans (congrArg some (by kernel_rfl))
  f36 := ⟨Tryz.f206.name, by decide, Tryz.func206.trans (congrArg some (by kernel_rfl))⟩
  f37 := ⟨Tryz.f209.name, by decide, Tryz.func209.trans (congrArg some (by kernel_rfl))⟩
  f38 := ⟨Tryz.f210.name, by decide, Tryz.func210.trans (congrArg some (by kernel_rfl))⟩
  f39 := ⟨Tryz.f211.name, by decide, Tryz.func211.trans (congrArg some (by kernel_rfl))⟩
  f41 := ⟨Tryz.f214.name, by decide, Tryz.func214.trans (congrArg some (by kernel_rfl))⟩
  t0 := Tryz.underlying0
  a0 := Tryz.isAgg0
  z0 := Tryz.sizeOf0
  v0 := Tryz.zeroValue0
  t3 := Tryz.underlying3
  a3 := Tryz.isAgg3
  z3 := Tryz.sizeOf3
  v3 := Tryz.zeroValue3
  t4 := Tryz.underlying4
  a4 := Tryz.isAgg4
  z4 := Tryz.sizeOf4
  v4 := Tryz.zeroValue4
  t5 := Tryz.underlying5
  a5 := Tryz.isAgg5
  z5 := Tryz.sizeOf5
  v5 := Tryz.zeroValue5
  t9 := Tryz.underlying9
  a9 := Tryz.isAgg9
  z9 := Tryz.sizeOf9
  v9 := Tryz.zeroValue9
  t26 := Tryz.underlying57
  a26 := Tryz.isAgg57
  z26 := Tryz.sizeOf57
  v26 := Tryz.zeroValue57
  t27 := Tryz.underlying57
  a27 := Tryz.isAgg57
  z27 := Tryz.sizeOf57
  v27 := Tryz.zeroValue57
  t29 := Tryz.underlying9
  a29 := Tryz.isAgg9
  z29 := Tryz.sizeOf9
  v29 := Tryz.zeroValue9
  t32 := Tryz.underlying150
  a32 := Tryz.isAgg150
  z32 := Tryz.sizeOf150
  v32 := Tryz.zeroValue150
  t35 := Tryz.underlying261
  a35 := Tryz.isAgg261
  z35 := Tryz.sizeOf261
  v35 := Tryz.zeroValue261
  t36 := Tryz.underlying262
  a36 := Tryz.isAgg262
  z36 := Tryz.sizeOf262
  v36 := Tryz.zeroValue262
  t41 := Tryz.underlying267
  a41 := Tryz.isAgg267
  z41 := Tryz.sizeOf267
  v41 := Tryz.zeroValue267
  t44 := Tryz.underlying270
  a44 := Tryz.isAgg270
  z44 := Tryz.sizeOf270
  v44 := Tryz.zeroValue270
  t46 := Tryz.underlying22
  a46 := Tryz.isAgg22
  z46 := Tryz.sizeOf22
  v46 := Tryz.zeroValue22
  t53 := Tryz.underlying275
  a53 := Tryz.isAgg275
  z53 := Tryz.sizeOf275
  v53 := Tryz.zeroValue275
  t57 := Tryz.underlying278
  a57 := Tryz.isAgg278
  z57 := Tryz.sizeOf278
  v57 := Tryz.zeroValue278
  t63 := Tryz.underlying281
  a63 := Tryz.isAgg281
  z63 := Tryz.sizeOf281
  v63 := Tryz.zeroValue281
  t64 := Tryz.underlying282
  a64 := Tryz.isAgg282
  z64 := Tryz.sizeOf282
  v64 := Tryz.zeroValue282 }
open Go.RowKit Go.Maps Go.Sort in
theorem Tryz.sorts148 (m : Nat) : AnyZ.SortsIn Tryz.prog Tryz.sorted148_ren Fence.wide m :=
  ⟨fun blk off cap ss W hH hblk hsz => callsIn_wide.2 (AnyM.slices_Sort_string Tryz.sort155 blk off cap ss W hH hblk hsz),
   fun p cap W => callsIn_wide.2 (AnyM.slices_Sort_string_none Tryz.sort155 p cap W)⟩
open Go.RowKit Go.Maps Go.Sort in
theorem Tryz.maps_Keys_74 (mb : Option Nat) (W : World) : CallsIn Fence.wide 5 Tryz.prog 74 #[.map mb] W fun e w' => e = .returned (.func (.func 120) #[] #[.pointer (some ⟨W.heap.size, 0, none⟩)]) ∧ w' = W.alloc (.cells #[.map mb] 97) :=
  AnyZ.keys_in Tryz.keys74 Fence.wide 5 trivial rfl mb W
set_option maxHeartbeats 1000000 in
open Go.RowKit Go.Maps Go.Sort in
theorem Tryz.slices_Sorted_keys_148_74 {H : Type} (b nn : Nat) (D0 : DataW H) (R : Value → Option (DataW H × List MemPlace)) (w : World) (hown : w.ownsMap Tryz.prog 9 R b nn D0) (hmax : Maps.size D0 ≤ maxLen) (hbytes : Maps.size D0 * 16 ≤ 140737488355328) :
    CallsIn Fence.wide 5 Tryz.prog 148 #[.func (.func 120) #[] #[.pointer (some ⟨w.heap.size, 0, none⟩)]] (w.alloc (.cells #[.map (some b)] 97)) fun e w' => ∃ (v : Value) (ss : List (List UInt8)), e = .returned v ∧ ss.Perm (strKeys D0) ∧
      w'.ownsRow (w.alloc (.cells #[.map (some b)] 97)).heap.size 9 1 v ss.length ((ss.mergeSort (fun x y => decide (x ≤ y))).map encStr) ∧ (v = .slice none 0 0 ↔ ss = []) ∧ Below (w.alloc (.cells #[.map (some b)] 97)).heap.size (w.alloc (.cells #[.map (some b)] 97)) w' := by
  have hbl := hown.lt
  have hseq : SeqGives Fence.wide 2 Tryz.prog 120 #[.pointer (some ⟨w.heap.size, 0, none⟩)] encStr (fun ss => ss.Perm (strKeys D0)) (Maps.size D0) (w.alloc (.cells #[.map (some b)] 97)) :=
    AnyZ.keys_gives (ρ := Tryz.keys74_ren) { Tryz.keys74 with } Fence.wide _ trivial rfl (by omega) w.heap.size b nn D0 _ (by simp) (by simp) (by
      obtain ⟨es, clock, hb, Ft, hs, hD⟩ := hown
      exact ⟨es, clock, (Below.heap_alloc _ _ b hbl).trans hb, Ft, hs, hD⟩)
  exact AnyZ.sorted_in Tryz.sorted148 Fence.wide 5 trivial trivial trivial trivial rfl (by omega) (Tryz.sorts148 _) (enters_of Tryz.func155 (by kernel_rfl) rfl) 120 #[.pointer (some ⟨w.heap.size, 0, none⟩)] trivial (enters_of Tryz.func120 (by kernel_rfl) rfl) _ _ hmax hbytes _ hseq
end Go.Proofs

set_option linter.unusedVariables false
set_option linter.unusedSimpArgs false
namespace Go.Proofs.YticogmpafehomaaGreatDoor
open Go.RowKit Go.Maps Go.ChangeMaps Go.Proofs.YticogmpafehomaaGreatDoorW.PrintWords Go.Proofs.YticogmpafehomaaGreatDoorW.PrintMore

theorem EMap.grow {w w1 : World} {okr okv : Nat → Prop} {mb n : Nat} {E F : Ent} {f g : ByteArray → Option Value} (hr : ∀ k, HoldsB w okr (f k) (Proofs.YticogmpafehomaaGreatDoor.look E k)) (hM : MapV Tryz.prog 9 w1 mb n g) (hg : w.grownBy w1 (some mb)) (hne : ∀ j, okr j → j ≠ mb) (hF : SortedE F)
    (h : ∀ k, HoldsB w1 okv (g k) (Proofs.YticogmpafehomaaGreatDoor.look F k)) : EMap w1 okv mb F := by
  have ht := mapV_tight hM Tryz.underlying9 (l := keysE F) hF (keys_iff h)
  rw [show (keysE F).length = F.length from by unfold keysE; simp] at ht
  exact ⟨g, ht, h⟩
set_option maxRecDepth 100000 in
theorem put_clos {w : World} {okr okv : Nat → Prop} {mb ob kc : Nat} {E : Ent} {A : Option Addr} {c : Nat} {k : ByteArray} {v : List Int} (h : EMap w okr mb E) (hs : SortedE E) (hE : E.length ≤ 65536) (hk : k.size ≤ 64)
    (hne : ∀ j, okr j → j ≠ mb) (hnv : ∀ j, okv j → j ≠ mb) (hF : RB w okv A v) (hc : v.length ≤ c) (ho : w.cell? ⟨ob, 0, none⟩ = some (.slice A v.length c)) (hkc : w.cell? ⟨kc, 0, none⟩ = some (.string k)) :
    Calls Tryz.prog 61 #[.map (some mb), .pointer (some ⟨ob, 0, none⟩), .pointer (some ⟨kc, 0, none⟩)] w fun e w' => e = .returned (.tuple #[]) ∧ EMap w' (fun j => okr j ∨ okv j) mb (putE k v E) ∧ w.grownBy w' (some mb) := by
  obtain ⟨f, hM, hr⟩ := h
  have hlt := hM.lt
  go_enter Tryz.func61, Tryz.ntmps61
  go_wp2_with (at_mapUpdate; refine wpList_put _ rfl _ _ _ 97 25 rfl Tryz.underlying9 Tryz.underlying97 rfl hM (by unfold maxLen; omega) k (.slice A v.length c) (by unfold maxLen; omega) rfl rfl ?_)
  intro w1 hM1 hg1
  have hfin : EMap w1 (fun j => okr j ∨ okv j) mb (putE k v E) := by
    refine EMap.grow (n := E.length + 1) hr hM1 hg1 hne (hs.put k v) (fun x => ?_)
    rw [look_putE]
    by_cases e : x = k
    · rw [if_pos e, if_pos e]
      exact ⟨A, c, rfl, hc, Kd.F_mono (Kd.F_step hF (fun j hj hlt => hg1.block j hlt (by intro e; injection e with e; exact hnv j hj e))) (fun j hj => .inr hj)⟩
    · rw [if_neg e, if_neg e]
      exact ((hr x).step (fun j hj hlt => hg1.block j hlt (by intro e; injection e with e; exact hne j hj e))).mono (fun j hj => .inl hj)
  have HF := hid (And.intro hfin hg1)
  clear hfin hg1 hM1
  go_wp2
  go_end0
  exact ⟨rfl, HF.out⟩
set_option maxRecDepth 100000 in
theorem del_clos {w : World} {okr : Nat → Prop} {mb kc : Nat} {E : Ent} {k : ByteArray} (h : EMap w okr mb E) (hs : SortedE E) (hk : k.size ≤ 64)
    (hne : ∀ j, okr j → j ≠ mb) (hkc : w.cell? ⟨kc, 0, none⟩ = some (.string k)) :
    Calls Tryz.prog 64 #[.map (some mb), .pointer (some ⟨kc, 0, none⟩)] w fun e w' => e = .returned (.tuple #[]) ∧ EMap w' okr mb (delE k E) ∧ w.grownBy w' (some mb) := by
  obtain ⟨f, hM, hr⟩ := h
  have hlt := hM.lt
  obtain ⟨w1, hrun, hM1, hg1⟩ := hM.del (t := 97) (e := 25) Tryz.underlying9 Tryz.underlying97 (s := k) (by unfold maxLen; omega) 0
  have hfin : EMap w1 okr mb (delE k E) := by
    refine EMap.grow (n := E.length) hr hM1 hg1 hne (hs.del k) (fun x => ?_)
    rw [look_delE]
    by_cases e : x = k
    · rw [if_pos e, if_pos e]; rfl
    · rw [if_neg e, if_neg e]
      exact (hr x).step (fun j hj hlt => hg1.block j hlt (by intro e; injection e with e; exact hne j hj e))
  have HF := hid (And.intro hfin hg1)
  clear hfin hg1 hM1 hM hr
  go_enter Tryz.func64, Tryz.ntmps64
  go_wp2
  go_end0
  exact ⟨rfl, HF.out⟩
set_option maxRecDepth 100000 in
set_option maxHeartbeats 2000000 in
theorem mclone_any {w : World} {okr : Nat → Prop} {mb : Nat} {E : Ent} (h : EMap w okr mb E) :
    Calls Tryz.prog 106 #[.map (some mb)] w fun e w' => e = .returned (.map (some w.heap.size)) ∧ EMap w' okr w.heap.size E ∧ Below w.heap.size w w' := by
  obtain ⟨f, ⟨D, ⟨es, clock, hb, F, hn, hD⟩, h1, h2⟩, hr⟩ := h
  have hq := fun w => run_eql_map_nil_sl (P := Tryz.prog) w 97 _ _ (some mb) Tryz.underlying97
  have hB : Below w.heap.size w (w.alloc (.map es clock)) := below_alloc (Below.refl _ _) _
  have hfin : EMap (w.alloc (.map es clock)) okr w.heap.size E :=
    ⟨f, ⟨D, ⟨es, clock, (MapKept.heap_alloc w _).1, F, hn, hD⟩, h1, h2⟩, fun k => (hr k).step (fun j _ hj => Below.heap_alloc _ _ _ hj)⟩
  have HF := hid (And.intro hfin hB)
  clear hfin hB hr h1 h2 F hn hD
  go_enter Tryz.func106, Tryz.ntmps106
  go_wp2
  rw [run_callFunc_extern Tryz.func147 (by kernel_rfl) (by kernel_rfl) (by kernel_rfl) (e := Extern.MapsClone.clone) (by kernel_rfl), run_maps_clone_sl w 97 hb]
  simp only [Result.andThen]
  rw [Oper.upon_value]
  go_wp2
  rw [run_typeAssert_map_sl _ 97 20 _ _ _ Tryz.underlying97]
  simp only [Result.andThen]
  rw [Oper.upon_value]
  go_wp2
  go_ret
  exact ⟨rfl, HF.out⟩
theorem kb_same (a x : ByteArray) : (kb a).sameKey (kb x) = decide (a = x) := by
  by_cases e : a = x
  · subst e
    rw [WideAt.sameKey_self (isKey_kb a)]
    simp
  · rw [decide_eq_false e]
    cases h : (kb a).sameKey (kb x) with
    | false => rfl
    | true => exact absurd (kb_inj (WideAt.sameKey_eq h)) e
theorem blocksE_strike {left : Lit → Bool} {x : ByteArray} {bs : List Int} (hx : left (kb x) = true) : ∀ {E : Ent}, SortedE E → look E x = some bs →
    blocksE (E.filter fun y => left (kb y.1)) = needK x bs.length + blocksE (E.filter fun y => left (kb y.1) && !(kb y.1).sameKey (kb x))
  | [], _, h => by cases h
  | (a, u) :: l, hs, h => by
    have h2 := sortedE_cons.1 hs
    simp only [look] at h
    by_cases e : a = x
    · rw [if_pos e] at h
      injection h with h
      subst h e
      rw [List.filter_cons, if_pos (by simpa using hx), List.filter_cons, if_neg (by rw [kb_same]; simp), blocksE_cons]
      congr 2
      refine List.filter_congr (fun y hy => ?_)
      have hne : y.1 ≠ a := fun e => BL.lt_irrefl _ (by have := h2.1 y hy; dsimp only at this; rw [e] at this; exact this)
      rw [kb_same, decide_eq_false hne]
      simp
    · rw [if_neg e] at h
      have ih := blocksE_strike hx h2.2 h
      rw [List.filter_cons, List.filter_cons]
      have ek : (left (kb a) && !(kb a).sameKey (kb x)) = left (kb a) := by rw [kb_same, decide_eq_false e]; simp
      dsimp only
      rw [ek]
      by_cases hl : left (kb a) = true
      · rw [if_pos hl, if_pos hl, blocksE_cons, blocksE_cons, ih]
        omega
      · rw [if_neg hl, if_neg hl]
        exact ih
theorem blocksE_le : ∀ E : Ent, blocksE E ≤ 65536 * E.length
  | [] => by simp [blocksE]
  | x :: l => by
    have h1 := blocksE_le l
    have h2 := needK_nn x.1 x.2.length
    rw [blocksE_cons, List.length_cons]
    push_cast
    omega
theorem blocksE_filter (p : ByteArray × List Int → Bool) : ∀ E : Ent, blocksE (E.filter p) ≤ blocksE E
  | [] => Int.le_refl _
  | x :: l => by
    have h1 := blocksE_filter p l
    have h2 := needK_nn x.1 x.2.length
    rw [List.filter_cons]
    split
    · rw [blocksE_cons, blocksE_cons]; omega
    · rw [blocksE_cons]; omega
set_option maxRecDepth 100000 in
set_option maxHeartbeats 4000000 in
theorem blocks_map {w : World} {okr : Nat → Prop} {mb : Nat} {E : Ent} (h : EMap w okr mb E) (hs : SortedE E) (hE : E.length ≤ 65536) (hb : ∀ x ∈ E, x.2.length ≤ 131072) :
    Calls Tryz.prog 78 #[.map (some mb)] w fun e w' => e = .returned (.int .i64 (blocksE E)) ∧ Below w.heap.size w w' := by
  obtain ⟨f, ⟨D, hown, h1, h2⟩, hr⟩ := h
  have hle := blocksE_le E
  have hnn := blocksE_nn E
  go_enter Tryz.func78, Tryz.ntmps78
  go_wp2_with (at_range; refine wpList_range_own _ rfl _ 97 rfl 9 25 (string_keyed Tryz.underlying9) Tryz.underlying97 heldV mb E.length D rfl hown ?_; intro w0 hrg0 hg0 hs0)
  go_frame
  have hall : E.filter (fun y => Maps.has D (kb y.1)) = E := by
    rw [List.filter_eq_self]
    intro y hy
    rw [h1, (hr y.1).isSome, mem_look hs (k := y.1) (v := y.2) hy]
    rfl
  go_loopw [3] (fun v wr => ∃ left cnt, wr.ranges Tryz.prog 9 heldV mb w.heap.size E.length D left cnt ∧ v = .int .i64 (blocksE E - blocksE (E.filter fun y => left (kb y.1))) ∧ Below w.heap.size w wr) (fun _ wr => wr.rangeLeft mb w.heap.size)
  case atStart => exact ⟨_, _, hrg0, by rw [hall]; simp, ⟨hg0.os, hg0.tape, hg0.output, hg0.size, fun k hk => hg0.block k hk (by simp)⟩⟩
  case round =>
    clear hrg0 hg0 hs0 hall hown
    obtain ⟨W, hW⟩ : ∃ W : World, W = wr := ⟨_, rfl⟩
    subst hW
    obtain ⟨left, cnt, hrg, rfl, hB⟩ := hrel
    have hsub := blocksE_filter (fun y => left (kb y.1)) E
    have hsn := blocksE_nn (E.filter fun y => left (kb y.1))
    obtain ⟨B1, hB1⟩ : ∃ B1, blocksE (E.filter fun y => left (kb y.1)) = B1 := ⟨_, rfl⟩
    rw [hB1] at hsub hsn ⊢
    have HH := hid (And.intro hs (And.intro hb (And.intro hr (And.intro h1 (And.intro h2 (And.intro hB1 hB))))))
    clear hs hb hr h1 h2 hB1 hB
    go_wp2_with (at_next; refine wpList_next_ranges _ rfl _ rfl 9 (string_keyed Tryz.underlying9) heldV Value.string id ?invK ?invV mb w.heap.size E.length D left cnt rfl hrg ?done ?more)
    case invK =>
      intro key kl hk
      obtain ⟨x, e, _⟩ := Maps.keyOf_str Tryz.underlying9 hk
      exact ⟨tx x, e⟩
    case invV => exact fun v y _ => ⟨v, rfl⟩
    case done =>
      intro h0 hl0
      have hz : B1 = 0 := by
        rw [← HH.out.2.2.2.2.2.1, show (E.filter fun y => left (kb y.1)) = [] from by rw [List.filter_eq_nil_iff]; intro y _; rw [hl0]; simp]
        rfl
      subst hz
      rw [Int.sub_zero]
      go_wp2
      go_ret
      exact ⟨rfl, HH.out.2.2.2.2.2.2⟩
    case more =>
      intro x c kl ya yb w1 cnt1 hkey hlk hv hat hrg1 hlt hg1 hs1 hen
      obtain ⟨hs, hb, hr, h1, h2, hB1, hB⟩ := HH.out
      have hkl : kl = kb x := by
        obtain ⟨x', q1, q2, q3⟩ := Maps.keyOf_str Tryz.underlying9 hkey
        have q4 : x = tx x' := by injection q1
        rw [q2, q4]
        unfold kb
        rw [bl_tx]
      subst hkl
      have hya : ya = .held c := by
        unfold heldV at hv
        simp at hv
        exact hv.1.symm
      subst hya
      have hfx : f x = some c := by
        cases hf : f x with
        | none =>
          have := Maps.atKey_of_not_has (D := D) (k := kb x) (by rw [h1, hf]; rfl) (.lit (.bool true))
          rw [hat] at this
          cases this
        | some u =>
          have := h2 x u hf (.lit (.bool true))
          rw [hat] at this
          injection this with this
          rw [this]
      have hrx := hr x
      cases hl : Proofs.YticogmpafehomaaGreatDoor.look E x with
      | none =>
        rw [hl, hfx] at hrx
        cases hrx
      | some bs =>
        rw [hl, hfx] at hrx
        obtain ⟨A, cc, e1, e2, e3⟩ := hrx
        injection e1 with e1
        subst e1
        have hst := blocksE_strike hlk hs hl
        rw [hB1] at hst
        have hbl := hb _ (look_mem hl)
        have hnk := needK_nn x bs.length
        have hcl := needS_any (w := w1) x (bs.length : Int) (by dsimp only at hbl; omega)
        have hfl := blocksE_nn (E.filter fun y => left (kb y.1) && !(kb y.1).sameKey (kb x))
        have hwr : IntKind.i64.wrap (blocksE E - B1 + needK x bs.length) = blocksE E - B1 + needK x bs.length := by rw [IntKind.wrap_i64]; omega
        have hB2 : Below w.heap.size w w1 := hB.grown hg1 hB.size (fun k hk => by cases hk; exact Nat.le_refl _)
        have hve : blocksE E - B1 + needK x bs.length = blocksE E - blocksE (E.filter fun y => left (kb y.1) && !(kb y.1).sameKey (kb x)) := by omega
        have HF := hid (And.intro hve (And.intro hrg1 hB2))
        clear hst hve hrg1 hB2 hs hb hr h1 h2 hB1 hB e3 hat hfx hl hv hkey hlk hbl hnk hfl hsub hsn hnn hle HH hg1 hs1
        generalize needK x bs.length = nk at hcl hwr HF ⊢
        generalize blocksE E - B1 = bq at hwr HF ⊢
        go_wp2_with (go_at_call 15; refine hcl.mono ?_; rintro e w' ⟨rfl, rfl⟩)
        go_roundw
        case rel => exact ⟨_, cnt1, HF.out.2.1, by rw [HF.out.1], HF.out.2.2⟩
        case measure => rw [HF.out.2.1.left_eq, hrg.left_eq]; exact hlt
end Go.Proofs.YticogmpafehomaaGreatDoor

set_option linter.unusedVariables false
set_option linter.unusedSimpArgs false
namespace Go.Proofs.YticogmpafehomaaGreatDoor
open Go.RowKit Go.Proofs.YticogmpafehomaaGreatDoorW.PrintWords Go.Proofs.YticogmpafehomaaGreatDoorW.PrintMore

theorem writeD_ws (D : DM) (i : Int) (xs : List Int) : (D.writeD i xs).ws.length ≤ D.ws.length + 1 := by
  unfold DM.writeD
  split
  · omega
  · split
    · omega
    · split <;> simp
theorem puts_ws (b0 : Int) : ∀ (l : List (Int × List Int)) (D : DM), (puts b0 D l).1.ws.length ≤ D.ws.length + l.length
  | [], D => by simp [puts]
  | x :: l, D => by
    have hw := writeD_ws D (b0 + x.1) x.2
    simp only [puts, List.length_cons]
    split
    · have := puts_ws b0 l (D.writeD (b0 + x.1) x.2); omega
    · dsimp only; omega
theorem sealW_ws (D : DM) (base : Int) (r : SR) : (D.sealW base r).1.ws.length ≤ D.ws.length + 65535 := by
  unfold DM.sealW
  by_cases h1 : sealE r = 0
  · rw [if_neg (by simp [h1])]
    split
    · dsimp only; omega
    · have h2 := puts_ws (base + r.at_) (order r) D
      have h3 : bodies r ≤ 65534 := by
        have : r.bytes.length ≤ 131072 := by
          unfold sealE at h1
          split at h1
          · cases h1
          · split at h1
            · cases h1
            · omega
        unfold bodies; omega
      have h4 := order_len r
      omega
  · rw [if_pos h1]; dsimp only; omega
/-- A log that may be. -/
structure HM.fine (H : HM) : Prop where
  n0 : 0 ≤ H.n
  nt : H.n ≤ H.tail
  ts : H.tail ≤ H.size
  s : H.size ≤ 4096
  b : 0 ≤ H.base ∧ H.base ≤ 4096
  g : 0 ≤ H.gen ∧ H.gen < 18446744073709551616
theorem hputC_fits {H : HM} {kind : Int} {n : Nat} (h : hputC H kind n = 0) : 0 < need n ∧ need n ≤ H.size - H.tail := by
  unfold hputC at h
  split at h
  · cases h
  · split at h
    · cases h
    · split at h
      · cases h
      · rename_i hf
        have : fitsB H n = true := by simpa using hf
        unfold fitsB at this
        exact of_decide_eq_true this
theorem hputF_fine {D : DM} {H : HM} (h : H.fine) (kind : Int) (bs : List Int) : (hputF D H kind bs).2.2.fine ∧ (hputF D H kind bs).2.2.base = H.base ∧ (hputF D H kind bs).2.2.size = H.size ∧ (hputF D H kind bs).2.2.gen = H.gen ∧
    ((hputF D H kind bs).1 = 0 → (hputF D H kind bs).2.2.n = H.n + 1) ∧ H.n ≤ (hputF D H kind bs).2.2.n ∧ ((hputF D H kind bs).1 ≠ 0 → (hputF D H kind bs).2.2 = H) := by
  unfold hputF
  by_cases he : hputC H kind bs.length = 0
  · rw [if_pos he]
    obtain ⟨h1, h2⟩ := hputC_fits he
    unfold hputH
    dsimp only
    by_cases hE : (D.sealW H.base (hputR H kind bs)).2 = 0
    · rw [if_pos hE]
      exact ⟨⟨by have := h.n0; dsimp only; omega, by have := h.nt; dsimp only; omega, by have := h.ts; dsimp only; omega, h.s, h.b, h.g⟩, rfl, rfl, rfl, fun _ => rfl, by dsimp only; omega, fun h => absurd hE h⟩
    · rw [if_neg hE]
      exact ⟨h, rfl, rfl, rfl, fun h => absurd h hE, Int.le_refl _, fun _ => rfl⟩
  · rw [if_neg he]
    exact ⟨h, rfl, rfl, rfl, fun h => absurd h he, Int.le_refl _, fun _ => rfl⟩
theorem hputF_ws (D : DM) (H : HM) (kind : Int) (bs : List Int) : (hputF D H kind bs).2.1.ws.length ≤ D.ws.length + 65535 := by
  unfold hputF
  split
  · exact sealW_ws _ _ _
  · dsimp only; omega
/-- Append. -/
theorem hput_any {w : World} {okd okr : Nat → Prop} {hb p : Nat} {D : DM} {H : HM} {A : Option Addr} {c : Nat} {bs : List Int} (h : PDisk w okd p D) (hh : HBlk w hb p H) (hf : H.fine) (hF : RB w okr A bs) (hne : apart okr okd) (hnh : ¬ okd hb) (hl : bs.length ≤ c) (hB : Bytes bs)
    (hbig : bs.length ≤ 140737488355328) (hm : (D.ws.length + 65537) * 32 ≤ 140737488355328) (kind : Int) :
    Calls Tryz.prog 105 #[.pointer (some ⟨hb, 0, none⟩), .int .i64 kind, .slice A bs.length c] w fun e w' => e = .returned (.int .i64 (hputF D H kind bs).1) ∧ PDisk w' (orNew okd w) p (hputF D H kind bs).2.1 ∧ HBlk w' hb p (hputF D H kind bs).2.2 ∧ Chg (fun k => okd k ∨ k = hb) w w' := by
  have h1 : 0 ≤ H.tail ∧ H.tail ≤ H.size ∧ H.size ≤ 4096 := ⟨Int.le_trans hf.n0 hf.nt, hf.ts, hf.s⟩
  unfold hputF
  by_cases he : hputC H kind bs.length = 0
  · rw [if_pos he]
    exact hput_ok h hh hF hne hnh hl hB h1 hf.g hf.b ⟨hf.n0, by have := hf.nt; omega⟩ hm kind he
  · rw [if_neg he]
    refine (hput_err hh h1 kind A bs.length c hbig he).mono ?_
    rintro e w' ⟨rfl, hb'⟩
    exact ⟨rfl, (h.step (fun k _ hk => hb'.block k hk)).mono (fun _ hk => .inl hk), hh.step (hb'.block _ hh.lt), Chg.of_below hb' _⟩
theorem putsF_snoc : ∀ (l : Ent) (D : DM) (H : HM) (x : ByteArray × List Int), putsF D H (l ++ [x]) = if (putsF D H l).1 = 0 then hputF (putsF D H l).2.1 (putsF D H l).2.2 1 (recB x.1 x.2) else putsF D H l
  | [], D, H, x => by
    simp only [List.nil_append, putsF, if_true]
    split
    · rename_i h
      rw [← h]
    · rfl
  | y :: l, D, H, x => by
    rw [List.cons_append]
    simp only [putsF]
    split
    · exact putsF_snoc l _ _ x
    · rfl
theorem putsF_stop : ∀ (l m : Ent) (D : DM) (H : HM), (putsF D H l).1 ≠ 0 → putsF D H (l ++ m) = putsF D H l
  | [], m, D, H, h => absurd rfl h
  | y :: l, m, D, H, h => by
    rw [List.cons_append]
    simp only [putsF] at h ⊢
    split
    · rename_i he
      rw [if_pos he] at h
      exact putsF_stop l m _ _ h
    · rfl
theorem putsF_fine : ∀ (l : Ent) (D : DM) (H : HM), H.fine → (putsF D H l).2.2.fine ∧ (putsF D H l).2.2.base = H.base ∧ (putsF D H l).2.2.size = H.size ∧ (putsF D H l).2.2.gen = H.gen ∧ ((putsF D H l).1 = 0 → (putsF D H l).2.2.n = H.n + l.length) ∧ H.n ≤ (putsF D H l).2.2.n
  | [], D, H, h => ⟨h, rfl, rfl, rfl, fun _ => by simp [putsF], Int.le_refl _⟩
  | y :: l, D, H, h => by
    obtain ⟨h1, h2, h3, h4, h5, h6, _⟩ := hputF_fine (D := D) h 1 (recB y.1 y.2)
    simp only [putsF]
    split
    · rename_i he
      obtain ⟨k1, k2, k3, k4, k5, k6⟩ := putsF_fine l (hputF D H 1 (recB y.1 y.2)).2.1 (hputF D H 1 (recB y.1 y.2)).2.2 h1
      exact ⟨k1, k2.trans h2, k3.trans h3, k4.trans h4, fun hh => by rw [k5 hh, h5 he, List.length_cons]; push_cast; omega, Int.le_trans h6 k6⟩
    · rename_i he
      exact ⟨h1, h2, h3, h4, fun hh => absurd hh he, h6⟩
theorem putsF_ws : ∀ (l : Ent) (D : DM) (H : HM), (putsF D H l).2.1.ws.length ≤ D.ws.length + 65535 * l.length
  | [], D, H => by simp [putsF]
  | y :: l, D, H => by
    have h1 := hputF_ws D H 1 (recB y.1 y.2)
    simp only [putsF, List.length_cons]
    split
    · have h2 := putsF_ws l (hputF D H 1 (recB y.1 y.2)).2.1 (hputF D H 1 (recB y.1 y.2)).2.2
      rw [Nat.mul_succ]
      generalize 65535 * l.length = z at h2 ⊢
      generalize (hputF D H 1 (recB y.1 y.2)).2.1.ws.length = a at h1 h2
      generalize (putsF (hputF D H 1 (recB y.1 y.2)).2.1 (hputF D H 1 (recB y.1 y.2)).2.2 l).2.1.ws.length = b at h2 ⊢
      omega
    · rw [Nat.mul_succ]
      generalize 65535 * l.length = z
      generalize (hputF D H 1 (recB y.1 y.2)).2.1.ws.length = a at h1 ⊢
      refine Nat.le_trans h1 (Nat.add_le_add_left (Nat.le_add_left _ _) _)
theorem log0_fine {D : DM} (h : D.wf) {m : MM} (hm : m.ok) : (log0 D m).fine := by
  have h2 := h.hi
  have h3 := hm.2.2.1
  have h4 := hm.2.2.2.1
  unfold mostN at h4
  have hs : sizeM D ≤ 4096 := by unfold sizeM; omega
  have hb : (baseM D m.K : Int) ≤ 4096 := by
    unfold baseM sizeM
    rcases (by have := hm.2.2.2.2; omega : m.K = 0 ∨ m.K = 1) with e | e <;> rw [e] <;> simp <;> omega
  exact ⟨by simp [log0], by simp [log0], by simp [log0], by simp only [log0]; omega, by simp only [log0]; omega, by simp only [log0]; omega⟩
theorem SM.wf.fine {S : SM} (h : S.wf) : S.H.fine := by
  have h2 := h.d.hi
  have h3 := h.m.2.2.1
  have h4 := h.m.2.2.2.1
  unfold mostN at h4
  have h5 := log0_fine h.d h.m
  exact ⟨h.n0, h.nt, h.ts, by rw [h.size]; exact h5.s, by rw [h.base]; exact h5.b, by rw [h.gen]; omega⟩
end Go.Proofs.YticogmpafehomaaGreatDoor

set_option linter.unusedVariables false
set_option linter.unusedSimpArgs false
namespace Go.Proofs.YticogmpafehomaaGreatDoor
open Go.RowKit Go.Maps Go.Proofs.YticogmpafehomaaGreatDoorW.PrintWords Go.Proofs.YticogmpafehomaaGreatDoorW.PrintMore

/-- A disk and a store on it, behind a call: their blocks are old ones of theirs, or new. -/
def SysOut (w w' : World) (okd okS : Nat → Prop) (p pd : Nat) (S : SM) : Prop :=
  ∃ okd' okS', PDisk w' okd' pd S.D ∧ PSto w' okS' p pd S ∧ apart okd' okS' ∧ (∀ k, okd' k → orNew okd w k) ∧ (∀ k, okS' k → orNew okS w k)
theorem wrap_succ {j n : Nat} (h : j + 1 ≤ n) (hn : n ≤ 65536) : wrap64 ((j : Int) + 1) = ((j + 1 : Nat) : Int) := by
  unfold wrap64
  omega
theorem meas_succ {j n : Nat} (h : j + 1 ≤ n) (hn : n ≤ 65536) : n - (intOf (.int .i64 (wrap64 ((j : Int) + 1)))).toNat < n - (intOf (.int .i64 (j : Int))).toNat := by
  rw [wrap_succ h hn]
  simp only [intOf]
  omega
theorem PSb.withD {w : World} {ok okr : Nat → Prop} {p pd hb mb : Nat} {dv : Value} {S : SM} (h : PSb w ok okr p pd hb mb dv S) (D : DM) : PSb w ok okr p pd hb mb dv { S with D := D } := ⟨h.okp, h.okh, h.okm, h.rows, h.blk, h.log, h.ent, h.dead, h.okd⟩
theorem compactF_done {S : SM} {F : Ent} {D' D2 : DM} {H' : HM} {E2 : Int} (h1 : ¬ (sizeM S.D : Int) < blocksE F) (h2 : ¬ S.D.gone = true) (h3 : ¬ (S.m.N = mostN ∨ stG S.D = mostN)) (hq : putsF S.D (log0 S.D S.next) F = (0, D', H'))
    (e1 : (flipF D' S.next).1 = E2) (e2 : (flipF D' S.next).2 = D2) : compactF S F = if E2 = 0 then (0, ⟨D2, S.next, H', F, S.dead⟩) else (E2, { S with D := D2, dead := true }) := by
  unfold compactF
  rw [if_neg h1, if_neg h2, if_neg h3, hq]
  dsimp only
  rw [if_pos rfl, e1, e2]
theorem setStore {w : World} {p pd hb mb : Nat} {m : MM} {dv : Value} (h : SBlk w p pd hb mb m dv) (m' : MM) (hb' mb' : Nat) :
    SBlk (((((w.setCell ⟨p, 1, none⟩ (.int .u64 m'.N)).setCell ⟨p, 2, none⟩ (.int .u64 m'.G)).setCell ⟨p, 3, none⟩ (.int .i64 m'.K)).setCell ⟨p, 4, none⟩ (.pointer (some ⟨hb', 0, none⟩))).setCell ⟨p, 5, none⟩ (.map (some mb'))) p pd hb' mb' m' dv := by
  have h1 := heap_setCell_same w p 1 _ _ (.int .u64 m'.N) h
  have h2 := heap_setCell_same _ p 2 _ _ (.int .u64 m'.G) h1
  have h3 := heap_setCell_same _ p 3 _ _ (.int .i64 m'.K) h2
  have h4 := heap_setCell_same _ p 4 _ _ (.pointer (some ⟨hb', 0, none⟩)) h3
  have h5 := heap_setCell_same _ p 5 _ _ (.map (some mb')) h4
  exact h5
theorem chg5 (w : World) (p : Nat) (a b c d e : Value) : Chg (fun k => k = p) w (((((w.setCell ⟨p, 1, none⟩ a).setCell ⟨p, 2, none⟩ b).setCell ⟨p, 3, none⟩ c).setCell ⟨p, 4, none⟩ d).setCell ⟨p, 5, none⟩ e) :=
  Chg.setCell (S := fun k => k = p) (Chg.setCell (S := fun k => k = p) (Chg.setCell (S := fun k => k = p) (Chg.setCell (S := fun k => k = p) (Chg.setCell (S := fun k => k = p) (Chg.refl _ _) (p := ⟨p, 1, none⟩) (.inl rfl) _) (p := ⟨p, 2, none⟩) (.inl rfl) _) (p := ⟨p, 3, none⟩) (.inl rfl) _) (p := ⟨p, 4, none⟩) (.inl rfl) _) (p := ⟨p, 5, none⟩) (.inl rfl) _
/-- There is room for what a change writes; few entries. (Functions: the walk would take the inequalities apart.) -/
def Room (D : DM) : Prop := Unit → (D.ws.length + 4300000000) * 32 ≤ 140737488355328
def Few (F : Ent) : Prop := Unit → F.length ≤ 65536
theorem putsF_room {D : DM} {H : HM} {l : Ent} (hl : l.length ≤ 65536) (hm : (D.ws.length + 4300000000) * 32 ≤ 140737488355328) : ((putsF D H l).2.1.ws.length + 65537) * 32 ≤ 140737488355328 := by
  have h1 := Int.ofNat_le.2 (putsF_ws l D H)
  have h2 := Int.ofNat_le.2 (Nat.mul_le_mul_left 65535 hl)
  have h3 := Int.ofNat_le.2 hm
  refine Int.ofNat_le.1 ?_
  rw [Int.natCast_add] at h1
  rw [show ((65535 * 65536 : Nat) : Int) = 4294901760 from by decide] at h2
  rw [Int.natCast_mul, Int.natCast_add] at h3
  rw [Int.natCast_mul, Int.natCast_add]
  generalize ((65535 * l.length : Nat) : Int) = z at h1 h2
  generalize (((putsF D H l).2.1.ws.length : Nat) : Int) = a at h1 ⊢
  generalize ((D.ws.length : Nat) : Int) = b at h1 h3
  have e1 : ((4300000000 : Nat) : Int) = 4300000000 := rfl
  have e2 : ((32 : Nat) : Int) = 32 := rfl
  have e3 : ((140737488355328 : Nat) : Int) = 140737488355328 := rfl
  have e4 : ((65537 : Nat) : Int) = 65537 := rfl
  rw [e1, e2, e3] at h3
  rw [e2, e3, e4]
  omega
set_option maxRecDepth 100000 in
set_option maxHeartbeats 8000000 in
theorem compact_any {w : World} {okd ok okr okn : Nat → Prop} {p pd hb mb mn : Nat} {dv : Value} {S : SM} {F : Ent} (hd : PDisk w okd pd S.D) (h : PSb w ok okr p pd hb mb dv S) (hwf : S.wf) (hn : EMap w okn mn F) (hFs : SortedE F)
    (hFe : ∀ x ∈ F, keyedB x.1 ∧ Bytes x.2 ∧ x.2.length ≤ 131072) (hFl : Few F) (hod : ∀ k, okd k → k < w.heap.size) (hon : ∀ k, okn k → k < w.heap.size) (hos : ∀ k, ok k → k < w.heap.size)
    (hap : apart okd (fun k => ok k ∨ okn k ∨ k = mn)) (hnr : ∀ k, okn k → k ≠ p ∧ k ≠ mn) (hmp : mn ≠ p) (hm : Room S.D) :
    Calls Tryz.prog 107 #[.pointer (some ⟨p, 0, none⟩), .map (some mn)] w fun e w' => e = .returned (.int .i64 (compactF S F).1) ∧ SysOut w w' okd (fun k => ok k ∨ okn k ∨ k = mn) p pd (compactF S F).2 ∧ Chg (fun k => okd k ∨ k = p) w w' := by
  obtain ⟨R, hR⟩ : ∃ R, compactF S F = R := ⟨_, rfl⟩
  rw [hR]
  have HR := hid hR
  clear hR
  have hwfd := hwf.d
  have hlo := hwfd.lo
  have hhi := hwfd.hi
  have hsz : sizeM S.D ≤ 4096 := by unfold sizeM; omega
  have hle := blocksE_le F
  have hnn := blocksE_nn F
  have hbl := blocks_map (w := w.drew) (hn.step (w1 := w.drew) rfl (fun _ _ _ => rfl)) hFs (hFl ()) (fun x hx => (hFe x hx).2.2)
  have hnlt := hn.lt
  have hplt := h.blk.lt
  obtain ⟨B, hB⟩ : ∃ B, blocksE F = B := ⟨_, rfl⟩
  rw [hB] at hbl hle hnn
  have H0 := hid (And.intro hd (And.intro h (And.intro hn (And.intro hFs (And.intro hFe hB)))))
  have hblk := h.blk
  have hne := h.ne
  have HZ := hid (And.intro hod (And.intro hon (And.intro hos (And.intro hap (And.intro hnr (And.intro hmp hne))))))
  have HW := hid hwf
  clear hB hd h hn hFs hFe hod hon hos hap hnr hmp hne hwf hwfd hlo
  go_enter Tryz.func107, Tryz.ntmps107
  go_wp2_with fail
  refine wp_region_plan [] (.take 0 (.take 2 (.take 3 (.take 4 (.take 5 (.run 1 (.run 6 (.take 7 .done)))))))) (fun W => SBlk W p pd hb mb S.m dv) (by kernel_rfl) (by kernel_rfl) (fun c a d v w h => by cases d <;> exact h) hblk ?_
  iterate 5 (apply plan_take rfl rfl; (case hy => (intro w' hS; have s0 := hS.c0; clear hS; go_simp; try exact rfl)); go_simp)
  refine plan_run_on rfl rfl (fun J hJ => ?_)
  go_simp
  refine hbl.mono ?_
  rintro e w1 ⟨rfl, hB1⟩
  have hB1' : Below w.heap.size w w1 := (below_drew (Below.refl w.heap.size w)).trans hB1
  have hblk1 : SBlk w1 p pd hb mb S.m dv := hblk.step (hB1'.block _ hplt)
  have hsi := size_any (H0.out.1.step (w1 := w1) (fun k _ hk => hB1'.block k hk))
  refine hJ _ _ _ (fun _ h => h) hblk1 ?_
  clear hJ J
  refine plan_run_on rfl rfl (fun J hJ => ?_)
  go_simp
  refine hsi.mono ?_
  rintro e w' ⟨rfl, rfl⟩
  refine hJ _ _ _ (fun _ h => h) hblk1 ?_
  clear hJ J
  apply plan_take rfl rfl
  case hy => (intro w' hS; clear hS; go_simp; try exact rfl)
  go_simp
  refine plan_done ?_
  clear hbl hsi hblk hB1
  by_cases hfull : (sizeM S.D : Int) < B
  · go_wp2
    go_ret
    obtain ⟨hd, h, _⟩ := H0.out
    obtain ⟨hod, hon, hos, hap, hnr, hmp, hne⟩ := HZ.out
    have hR : R = (63, S) := by rw [← HR.out]; unfold compactF; rw [H0.out.2.2.2.2.2, if_pos hfull]
    rw [hR]
    exact ⟨rfl, ⟨okd, ok, hd.step (fun k _ hk => hB1'.block k hk), ⟨okr, hb, mb, dv, h.step (fun k _ hk => hB1'.block k hk)⟩, fun k h1 h2 => hap k h1 (.inl h2), fun k hk => .inl hk, fun k hk => .inl (.inl hk)⟩, Chg.of_below hB1' _⟩
  have c0 := hblk1.c0
  by_cases hg : S.D.gone = true
  · have hst := standing_gone (H0.out.1.step (w1 := w1) (fun k _ hk => hB1'.block k hk)) hg
    unfold manV at hst
    go_wp2_with fail
    refine hst.mono ?_
    rintro e w2 ⟨rfl, hB2⟩
    have hB3 := below_step (below_step hB1' hB2) (below_alloc (Below.refl _ _) (.cells #[.int .u64 0, .int .u64 0, .int .i64 0] 29))
    have hs3 := hB3.size
    have h3 := H0.out.2.1.step (w1 := w2.alloc (.cells #[.int .u64 0, .int .u64 0, .int .i64 0] 29)) (fun k _ hk => hB3.block k hk)
    have hme := met_err h3 (E := 61) (by omega)
    clear hst hB2 c0 hblk1 h3
    go_wp2_with fail
    generalize w2.alloc (.cells #[.int .u64 0, .int .u64 0, .int .i64 0] 29) = w3 at hB3 hs3 hme ⊢
    refine hme.mono ?_
    rintro e w4 ⟨rfl, h4, hC4⟩
    have HF := hid (And.intro h4 hC4)
    clear h4 hC4 hme
    go_wp2
    go_ret
    obtain ⟨h4, hC4⟩ := HF.out
    obtain ⟨hd, h, _⟩ := H0.out
    obtain ⟨hod, hon, hos, hap, hnr, hmp, hne⟩ := HZ.out
    have hC := (Chg.of_below hB3 (fun k => k = p)).then_ hC4 (fun k hk => .inl hk)
    have hR : R = (61, { S with dead := true }) := by rw [← HR.out]; unfold compactF; rw [H0.out.2.2.2.2.2, if_neg (by omega), if_pos hg]
    rw [hR]
    exact ⟨rfl, ⟨okd, orNew ok w3, hd.step (fun k hk hlt => hC.block k hlt (fun e => hap k hk (.inl (e ▸ h.okp)))), ⟨okr, hb, mb, _, h4⟩, fun k h1 h2 => h2.elim (fun h2 => hap k h1 (.inl h2)) (fun h2 => by have := hod k h1; omega), fun k hk => .inl hk, fun k hk => hk.elim (fun h => .inl (.inl h)) (fun h => .inr (by omega))⟩, hC.mono (fun k hk => .inr hk)⟩
  have hg0 : S.D.gone = false := by simpa using hg
  have hst := standing_ok (H0.out.1.step (w1 := w1) (fun k _ hk => hB1'.block k hk)) hg0
  have hsg := stG_bnd S.D
  have hmok := HW.out.m
  obtain ⟨P, hP⟩ : ∃ P, pickM S.D = P := ⟨_, rfl⟩
  rw [hP] at hst
  obtain ⟨g, hgs⟩ : ∃ g, stG S.D = g := ⟨_, rfl⟩
  rw [hgs] at hst hsg
  unfold manV at hst
  obtain ⟨PN, PG, PK⟩ := P
  dsimp only at hst
  clear hP
  have c1 := hblk1.c1
  obtain ⟨N, hN⟩ : ∃ N, S.m.N = N := ⟨_, rfl⟩
  obtain ⟨K, hK⟩ : ∃ K, S.m.K = K := ⟨_, rfl⟩
  have hNb : 1 ≤ N ∧ N ≤ 9223372036854775807 := by rw [← hN]; exact ⟨hmok.1, hmok.2.1⟩
  have hKb : 0 ≤ K ∧ K ≤ 1 := by rw [← hK]; exact hmok.2.2.2.2
  rw [hN] at c1
  unfold mostN at hsg
  have HB1 := hid (And.intro hgs (And.intro hN hK))
  clear hgs hN hK hmok hblk1
  by_cases hmax : N = 9223372036854775807 ∨ g = 9223372036854775807
  · have hfin : ∀ w', Below w.heap.size w w' → (.returned (.int .i64 62) : Ending) = .returned (.int .i64 R.1) ∧ SysOut w w' okd (fun k => ok k ∨ okn k ∨ k = mn) p pd R.2 ∧ Chg (fun k => okd k ∨ k = p) w w' := by
      intro w' hB
      obtain ⟨hd, h, _⟩ := H0.out
      obtain ⟨hod, hon, hos, hap, hnr, hmp, hne⟩ := HZ.out
      have hR : R = (62, S) := by rw [← HR.out]; unfold compactF; rw [H0.out.2.2.2.2.2, if_neg (by omega), if_neg hg, if_pos (by rw [HB1.out.1, HB1.out.2.1]; exact hmax)]
      rw [hR]
      exact ⟨rfl, ⟨okd, ok, hd.step (fun k _ hk => hB.block k hk), ⟨okr, hb, mb, dv, h.step (fun k _ hk => hB.block k hk)⟩, fun k h1 h2 => hap k h1 (.inl h2), fun k hk => .inl hk, fun k hk => .inl (.inl hk)⟩, Chg.of_below hB _⟩
    have HFI := hid hfin
    clear hfin
    go_wp2_with fail
    refine hst.mono ?_
    rintro e w2 ⟨rfl, hB2⟩
    have hB2a := below_step hB2 (below_alloc (Below.refl _ _) (.cells #[.int .u64 PN, .int .u64 PG, .int .i64 PK] 29))
    have c1' := (hB2a.cell (p := ⟨p, 1, none⟩) (Nat.lt_of_lt_of_le hplt hB1'.size)).trans c1
    have hB3 := below_step hB1' hB2a
    clear hst hB2 hB2a c1 c0
    rcases hmax with h0 | h0
    · subst h0
      go_wp2
      go_ret
      exact HFI.out _ hB3
    · subst h0
      by_cases hN1 : N = 9223372036854775807
      · subst hN1
        go_wp2
        go_ret
        exact HFI.out _ hB3
      · have hN2 : (N == 9223372036854775807) = false := by simpa using hN1
        go_wp2
        go_ret
        exact HFI.out _ hB3
  have hN2 : (N == 9223372036854775807) = false := by simpa using (by omega : ¬ N = 9223372036854775807)
  have hg2 : (g == 9223372036854775807) = false := by simpa using (by omega : ¬ g = 9223372036854775807)
  obtain ⟨N1, hN1⟩ : ∃ N1, N + 1 = N1 := ⟨_, rfl⟩
  obtain ⟨g1, hg1⟩ : ∃ g1, g + 1 = g1 := ⟨_, rfl⟩
  obtain ⟨K1, hK1⟩ : ∃ K1, 1 - K = K1 := ⟨_, rfl⟩
  have u1 : IntKind.u64.wrap (N + 1) = N1 := by rw [IntKind.wrap_u64]; omega
  have u2 : IntKind.u64.wrap (g + 1) = g1 := by rw [IntKind.wrap_u64]; omega
  have u3 : IntKind.i64.wrap (1 - K) = K1 := by rw [IntKind.wrap_i64]; omega
  have hok1 : (⟨N1, g1, K1⟩ : MM).ok := by unfold MM.ok mostN; dsimp only; omega
  have hnx : S.next = ⟨N1, g1, K1⟩ := by unfold SM.next; rw [HB1.out.1, HB1.out.2.1, HB1.out.2.2, hN1, hg1, hK1]
  have HNX := hid (And.intro hnx hok1)
  have hK1b : 0 ≤ K1 ∧ K1 ≤ 1 := by omega
  have hg1b : 1 ≤ g1 := by omega
  clear hnx hok1
  go_wp2_with fail
  refine hst.mono ?_
  rintro e w2 ⟨rfl, hB2⟩
  have hB2a := below_step hB2 (below_alloc (Below.refl _ _) (.cells #[.int .u64 PN, .int .u64 PG, .int .i64 PK] 29))
  have c1' := (hB2a.cell (p := ⟨p, 1, none⟩) (Nat.lt_of_lt_of_le hplt hB1'.size)).trans c1
  have hB3 := below_step hB1' hB2a
  clear hst hB2 hB2a c1 c0 hN1 hg1 hK1 hmax
  go_wp2_with fail
  generalize w2.alloc (.cells #[.int .u64 PN, .int .u64 PG, .int .i64 PK] 29) = w3 at hB3 c1' ⊢
  have hblk3 : SBlk w3.drew p pd hb mb S.m dv := H0.out.2.1.blk.step (hB3.block _ hplt)
  have hs3 := hB3.size
  have HS3 := hid (And.intro HB1.out.2.1 HB1.out.2.2)
  clear c1'
  refine wp_region_plan [16] (.take 0 (.take 1 (.take 2 (.take 3 (.take 4 (.take 5 (.take 6 (.take 7 (.take 8 (.take 9 (.take 10 (.take 11 (.take 12 (.take 13 (.take 14 (.run 15 (.tail 16 .done))))))))))))))))) (fun W => SBlk W p pd hb mb S.m dv) (by kernel_rfl) (by kernel_rfl) (fun c a d v w h => by cases d <;> exact h) hblk3 ?_
  iterate 15 (apply plan_take rfl rfl; (case hy => (intro w' hS; have s1 := hS.c1; have s3 := hS.c3; rw [HS3.out.1] at s1; rw [HS3.out.2] at s3; clear hS; go_simp; try exact rfl)); go_simp)
  refine plan_run_on rfl rfl (fun J hJ => ?_)
  go_simp
  have hlt3 : p < w3.heap.size := Nat.lt_of_lt_of_le hplt hs3
  have hblk4 : SBlk ((w3.alloc (.cells #[.int .u64 0, .int .u64 0, .int .i64 0] 29)).drew) p pd hb mb S.m dv := hblk3.step (Below.heap_alloc w3 (.cells #[.int .u64 0, .int .u64 0, .int .i64 0] 29) _ hlt3)
  refine hJ _ _ _ (fun _ h => h) hblk4 ?_
  clear hJ J
  refine plan_tail_on rfl rfl (fun J hJ => ?_)
  go_simp
  have hx4 : (w3.alloc (.cells #[.int .u64 N1, .int .u64 g1, .int .i64 K1] 29)).drew.heap[w3.heap.size]? = some (.cells #[.int .u64 N1, .int .u64 g1, .int .i64 K1] 29 (0, 0)) := heap_alloc_new w3 _
  have hB4 : Below w.heap.size w (w3.alloc (.cells #[.int .u64 N1, .int .u64 g1, .int .i64 K1] 29)).drew := below_drew (below_step hB3 (below_alloc (Below.refl _ _) _))
  generalize (w3.alloc (.cells #[.int .u64 N1, .int .u64 g1, .int .i64 K1] 29)).drew = w4 at hx4 hB4 ⊢
  have hs4 := hB4.size
  have hlt4 := blk_lt hx4
  refine hJ _ _ ?_
  clear hJ J hblk4 hblk3
  refine plan_done ?_
  have hblk5 : SBlk w4.drew p pd hb mb S.m dv := H0.out.2.1.blk.step (hB4.block _ hplt)
  have hP5 : PDisk w4.drew okd pd S.D := H0.out.1.step (fun k _ hk => hB4.block k hk)
  have hba := base_any hP5 K1 (by omega)
  have hsi := size_any hP5
  have hnw := hnew_ok hP5 (baseM S.D K1) (sizeM S.D) g1 (hnew_fine HW.out.d (by omega) (by omega))
  have hx5 : w4.drew.heap[w3.heap.size]? = some (.cells #[.int .u64 N1, .int .u64 g1, .int .i64 K1] 29 (0, 0)) := hx4
  clear hP5
  go_wp2_with fail
  refine wp_region_plan [] (.take 0 (.take 1 (.take 2 (.take 3 (.take 4 (.take 5 (.take 6 (.take 7 (.take 8 (.take 9 (.take 11 (.take 12 (.take 13 (.take 14 (.take 16 (.take 17 (.run 10 (.run 15 (.run 18 (.take 19 (.take 20 (.take 21 (.take 22 (.take 23 .done)))))))))))))))))))))))) (fun W => SBlk W p pd hb mb S.m dv ∧ W.heap[w3.heap.size]? = some (.cells #[.int .u64 N1, .int .u64 g1, .int .i64 K1] 29 (0, 0))) (by kernel_rfl) (by kernel_rfl) (fun c a d v w h => by cases d <;> exact h) ⟨hblk5, hx5⟩ ?_
  iterate 16 (apply plan_take rfl rfl; (case hy => (intro w' hS; have s0 := hS.1.c0; have s1 := cell_of_row _ _ 1 _ _ _ hS.2; have s2 := cell_of_row _ _ 2 _ _ _ hS.2; simp at s1 s2; clear hS; go_simp; try exact rfl)); go_simp)
  refine plan_run_on rfl rfl (fun J hJ => ?_)
  go_simp
  refine hba.mono ?_
  rintro e W' ⟨rfl, rfl⟩
  refine hJ _ _ _ (fun _ h => h) ⟨hblk5, hx5⟩ ?_
  clear hJ J
  refine plan_run_on rfl rfl (fun J hJ => ?_)
  go_simp
  refine hsi.mono ?_
  rintro e W' ⟨rfl, rfl⟩
  refine hJ _ _ _ (fun _ h => h) ⟨hblk5, hx5⟩ ?_
  clear hJ J
  refine plan_run_on rfl rfl (fun J hJ => ?_)
  go_simp
  refine hnw.mono ?_
  rintro e w5 ⟨rfl, hh5, hB5⟩
  have hB5' : Below w4.heap.size w4 w5 := (below_drew (Below.refl w4.heap.size w4)).trans hB5
  have hx6 := (hB5'.block _ hlt4).trans hx4
  have hB6 := below_step hB4 hB5'
  have hblk6 : SBlk w5 p pd hb mb S.m dv := H0.out.2.1.blk.step (hB6.block _ hplt)
  refine hJ _ _ _ (fun _ h => h) ⟨hblk6, hx6⟩ ?_
  clear hJ J hba hsi hnw hB5 hx5 hblk5 hx4
  iterate 5 (apply plan_take rfl rfl; (case hy => (intro w' hS; clear hS; go_simp; try exact rfl)); go_simp)
  refine plan_done ?_
  have hlt5 : w4.heap.size < w5.heap.size := hh5.lt
  have hs45 : w4.drew.heap.size = w4.heap.size := rfl
  rw [hs45] at hh5
  obtain ⟨f, ⟨D0, hown, h1, h2⟩, hr⟩ := H0.out.2.2.1.step (w1 := w5) (hB6.block _ hnlt) (fun k hk hlt => hB6.block k hlt)
  have hFs := H0.out.2.2.2.1
  have hki := keys_iff hr
  have hmsz := MapV.size hown Tryz.underlying9 h1 hFs hki
  have hfl : F.length ≤ 65536 := hFl ()
  rw [show (keysE F).length = F.length from by unfold keysE; simp] at hmsz
  have hk := (callsIn_wide (n := 5)).1 (Tryz.maps_Keys_74 (some mn) w5)
  have hso := (callsIn_wide (n := 5)).1 (Tryz.slices_Sorted_keys_148_74 mn F.length D0 heldV w5 hown (by rw [hmsz]; unfold maxLen; omega) (by rw [hmsz]; omega))
  have hkeys := fun (ss : List BL) (hp : ss.Perm (strKeys D0)) => MapV.keys hown Tryz.underlying9 h1 hp hFs hki
  have HK := hid hkeys
  clear hkeys hown h1 h2 hr hki hmsz hfl hFs
  have ba := below_alloc (Below.refl w5.heap.size w5) (.cells #[.map (some mn)] 97)
  go_wp2_with fail
  refine hk.mono ?_
  rintro e w6 ⟨rfl, rfl⟩
  clear hk
  go_wp2_with fail
  refine hso.mono ?_
  rintro e w7 ⟨u, ss, rfl, hp, hrow, _, hb7⟩
  have hkk := HK.out ss hp
  have hl : ss.length = F.length := by
    have := congrArg List.length hkk
    rw [List.length_mergeSort, List.length_map] at this
    rw [this]; unfold keysE; simp
  rw [hkk, ← map_enc, hl, show F.length = (keysE F).length from by unfold keysE; simp] at hrow
  have hR : KS.R 9 w7 (w5.alloc (.cells #[.map (some mn)] 97)).heap.size (fun _ => True) u (keysE F) := Kd.R_of_own hrow (fun _ _ => trivial)
  obtain ⟨A, c, rfl, hR'⟩ := KS_own hR
  have hB7 := below_step ba hb7
  have hsz7 := hb7.size
  rw [World.size_alloc] at hsz7
  clear hso hrow hR ba hb7 hkk hp HK hl
  have hKF : KS.F w7 (fun k => w5.heap.size ≤ k) A (keysE F).length (keysE F) := Kd.F_mono (Kd.R_F hR') (fun k hk => by rw [World.size_alloc] at hk; omega)
  have hB8 := below_step hB6 hB7
  have hx7 := (hB7.block _ (blk_lt hx6)).trans hx6
  have hh7 : HBlk w7 w4.heap.size pd (log0 S.D ⟨N1, g1, K1⟩) := hh5.step (hB7.block _ hlt5)
  have hf0 : (log0 S.D ⟨N1, g1, K1⟩).fine := log0_fine HW.out.d HNX.out.2
  have hlen : (keysE F).length = F.length := by unfold keysE; simp
  have hP7 := H0.out.1.step (w1 := w7) (fun k _ hk => hB8.block k hk)
  have HK := hid (And.intro hKF (And.intro hx7 (And.intro hB8 (And.intro hf0 hR'))))
  clear hKF hx7 hf0 hR' hx6 hblk6 hB6 hB4 hB5' hB3 hh5 hB7
  rw [hlen]
  obtain ⟨L0, hL0⟩ : ∃ L0, log0 S.D ⟨N1, g1, K1⟩ = L0 := ⟨_, rfl⟩
  rw [hL0] at HK hh7
  have HL0 := hid hL0
  clear hL0
  go_wp2_with fail
  go_loopw [92] (fun i wr => ∃ j : Nat, j ≤ F.length ∧ i = .int .i64 j ∧ (putsF S.D L0 (F.take j)).1 = 0 ∧ PDisk wr (fun k => okd k ∨ w7.heap.size ≤ k) pd (putsF S.D L0 (F.take j)).2.1 ∧ HBlk wr w4.heap.size pd (putsF S.D L0 (F.take j)).2.2 ∧ Chg (fun k => okd k ∨ k = w4.heap.size) w7 wr) (fun i _ => F.length - (intOf i).toNat)
  case atStart => exact ⟨0, Nat.zero_le _, rfl, rfl, hP7.mono (fun k hk => .inl hk), hh7, Chg.refl _ _⟩
  case round =>
    clear hP7 hh7
    obtain ⟨W, hW⟩ : ∃ W : World, W = wr := ⟨_, rfl⟩
    subst hW
    obtain ⟨j, hj, rfl, hE0, hP, hh, hC⟩ := hrel
    obtain ⟨hKF, hx7, hB8, hf0, hR'⟩ := HK.out
    obtain ⟨hd, h, hn, hFs, hFe, _⟩ := H0.out
    obtain ⟨hod, hon, hos, hap, hnr, hmp, hne⟩ := HZ.out
    have hsW := hC.size
    -- what stands as it stood
    have hstay : ∀ k, k < w.heap.size → ¬ okd k → W.heap[k]? = w.heap[k]? := fun k hk hnk => (hC.block k (Nat.lt_of_lt_of_le hk hB8.size) (fun e => e.elim hnk (fun e => by omega))).trans (hB8.block k hk)
    have hsto := h.step (w1 := W) (fun k hk hlt => hstay k hlt (fun e => hap k e (.inl hk)))
    by_cases hlt : j < F.length
    · have hltI : (j : Int) < (F.length : Int) := by omega
      have HJ := hid (show j + 1 ≤ F.length from hlt)
      have hKW := Kd.F_now (Kd.F_step hKF (W1 := W) (fun k hk hlt => hC.block k hlt (fun e => e.elim (fun e => by have := hod k e; omega) (fun e => by omega))))
      cases A with
      | none =>
        have := KS_none hKW
        rw [this] at hlen
        simp at hlen
        omega
      | some ad =>
      have hcell := KS_at hKW (i := j) (by omega)
      have hxj : (keysE F)[j]'(by omega) = F[j].1 := by unfold keysE; exact List.getElem_map _
      rw [hxj] at hcell
      have hmem : F[j] ∈ F := List.getElem_mem hlt
      have hxe := hFe _ hmem
      have hlk := mem_look hFs (k := F[j].1) (v := F[j].2) hmem
      have htk : F.take (j + 1) = F.take j ++ [F[j]] := List.take_succ_eq_append_getElem hlt
      have hsn := putsF_snoc (F.take j) S.D L0 F[j]
      rw [← htk, if_pos hE0] at hsn
      have hroom := putsF_room (D := S.D) (H := L0) (l := F.take j) (by rw [List.length_take]; have := hFl (); omega) (hm ())
      have hfn := (putsF_fine (F.take j) S.D L0 hf0).1
      have hent : EMap W okn mn F := hn.step (hstay mn hnlt (fun e => hap mn e (.inr (.inr rfl)))) (fun k hk hlt => hstay k hlt (fun e => hap k e (.inr (.inl hk))))
      obtain ⟨A', n', c', _, hl2, hn', hnc, hRB⟩ := hent.look (k := F[j].1) (by have := hxe.1.2; omega)
      rw [hlk] at hn' hRB
      simp only [Option.getD_some] at hn' hRB
      have HS := hid (And.intro hsn (And.intro hE0 (And.intro hsto (And.intro hstay hC))))
      generalize putsF S.D L0 (F.take j) = q at hP hh hfn hroom hsn HS
      obtain ⟨q1, Dj, Hj⟩ := q
      generalize F[j] = x at hcell hxe hn' hRB hl2 hsn HS
      obtain ⟨x, bs⟩ := x
      dsimp only at hP hh hfn hroom hcell hxe hn' hRB hl2
      subst hn'
      have hrec := record_any (c := c') x hRB (fun k hk => Nat.lt_of_lt_of_le (hon k hk) (Nat.le_trans hB8.size hsW)) (by have := hxe.1.2; have := hxe.2.2; omega)
      have hbnd := hP.bound
      clear hsn hE0 hsto hstay hC hKF hx7 hB8 hf0 hR' hd h hn hFs hFe hod hon hos hap hnr hmp hne hent hRB hP hlk htk hmem hxj hKW
      have hB8s := HK.out.2.2.1.size
      have hbb := recB_bytes (k := x) hxe.2.1
      have hbl : Unit → (recB x bs).length ≤ 140737488355328 := fun _ => by rw [recB_len]; have := hxe.1.2; have := hxe.2.2; omega
      clear hxe
      go_wp2_with fail
      refine hrec.mono ?_
      rintro e w8 ⟨A8, c8, rfl, hR8, hB9⟩
      have hP8 := hbnd.step (w1 := w8) (fun k hk _ => hB9.block k hk.2)
      have hh8 := hh.step (hB9.block _ hh.lt)
      have hle8 : (recB x bs).length ≤ c8 := by
        obtain ⟨_, _, e8, h8, _⟩ := Kd.R_reads hR8
        injection e8 with _ _ e8
        omega
      have hhlt := hh.lt
      have happ := hput_any hP8 hh8 hfn (Kd.R_F hR8) (fun k hk hk2 => by have := hk2.2; omega) (fun hk => hk.1.elim (fun e => by have := HZ.out.1 _ e; omega) (fun e => by omega)) hle8 hbb (hbl ()) hroom 1
      clear hrec hR8 hP8 hh8 hbb hroom hbnd hh hl2 hcell
      go_wp2_with fail
      refine happ.mono ?_
      rintro e w9 ⟨rfl, hP9, hh9, hC9⟩
      clear happ
      obtain ⟨hsn, hE0, hsto, hstay, hC⟩ := HS.out
      subst hE0
      have hs8 := hB9.size
      have hP9' : PDisk w9 (fun k => okd k ∨ w7.heap.size ≤ k) pd (hputF Dj Hj 1 (recB x bs)).2.1 := hP9.mono (fun k hk => hk.elim (fun hk => hk.1) (fun hk => .inr (by omega)))
      have hCW : Chg (fun k => ((okd k ∨ w7.heap.size ≤ k) ∧ k < W.heap.size) ∨ k = w4.heap.size) W w9 := (Chg.of_below hB9 (fun k => ((okd k ∨ w7.heap.size ≤ k) ∧ k < W.heap.size) ∨ k = w4.heap.size)).then_ hC9 (fun k hk => .inl hk)
      have hC10 := hC.then_ hCW (fun k hk => hk.elim (fun hk => hk.1.elim (fun e => .inl (.inl e)) (fun e => .inr e)) (fun e => .inl (.inr e)))
      clear hP9 hCW hC9 hC hB9
      generalize hq : hputF Dj Hj 1 (recB x bs) = q at hP9' hh9 hsn ⊢
      obtain ⟨E, D', H'⟩ := q
      dsimp only at hP9' hh9 ⊢
      clear hq
      by_cases hE : E = 0
      · subst hE
        have HF := hid (And.intro hsn (And.intro hP9' (And.intro hh9 hC10)))
        clear hsn hP9' hh9 hC10 hsto hstay HS
        go_wp2_with fail
        refine (met_ok _).mono ?_
        rintro e w10 ⟨rfl, rfl⟩
        go_wp2
        go_roundw
        case rel => exact ⟨j + 1, HJ.out, by rw [wrap_succ HJ.out (hFl ())], by rw [HF.out.1], by rw [HF.out.1]; exact HF.out.2.1, by rw [HF.out.1]; exact HF.out.2.2.1, HF.out.2.2.2⟩
        case measure => exact meas_succ HJ.out (hFl ())
      · have hE2 : (E != 0) = true := by simpa using hE
        have hsto9 := H0.out.2.1.step (w1 := w9) (fun k hk hlt => (hC10.block k (Nat.lt_of_lt_of_le hlt hB8s) (fun e => e.elim (fun e => HZ.out.2.2.2.1 k e (.inl hk)) (fun e => by omega))).trans (HK.out.2.2.1.block k hlt))
        have hme := met_err hsto9 hE
        have HF := hid (And.intro hsn (And.intro hP9' (And.intro hh9 hC10)))
        clear hsn hP9' hh9 hC10 hsto hstay HS hsto9
        go_wp2_with fail
        refine hme.mono ?_
        rintro e w10 ⟨rfl, h10, hC11⟩
        have HG := hid (And.intro h10 hC11)
        clear h10 hC11 hme
        go_wp2
        go_ret
        obtain ⟨hsn, hP9, hh9, hC10⟩ := HF.out
        obtain ⟨h10, hC11⟩ := HG.out
        obtain ⟨hod, hon, hos, hap, hnr, hmp, hne⟩ := HZ.out
        have hall : putsF S.D L0 F = (E, D', H') := by
          have h1 := putsF_stop (F.take (j + 1)) (F.drop (j + 1)) S.D L0 (by rw [hsn]; exact hE)
          rw [List.take_append_drop, hsn] at h1
          exact h1
        have hR : R = (E, { S with D := D', dead := true }) := by
          rw [← HR.out]
          unfold compactF
          rw [H0.out.2.2.2.2.2, if_neg (by omega), if_neg hg, if_neg (by rw [HB1.out.1, HB1.out.2.1]; unfold mostN; simp at hN2 hg2; omega), HNX.out.1, HL0.out, hall, if_neg hE]
        rw [hR]
        have hokp := H0.out.2.1.okp
        have hC12 := ((Chg.of_below HK.out.2.2.1 (fun k => okd k ∨ k = p)).then_ hC10 (fun k hk => hk.elim (fun e => .inl (.inl e)) (fun e => .inr (by omega)))).then_ hC11 (fun k hk => .inl (.inr hk))
        exact ⟨rfl, ⟨_, orNew ok w9, hP9.bound.step (fun k hk hlt => hC11.block k hlt (fun e => hk.1.elim (fun hk => hap k hk (.inl (e ▸ hokp))) (fun hk => by omega))), ⟨okr, hb, mb, _, h10.withD D'⟩,
          fun k h1 h2 => h2.elim (fun h2 => h1.1.elim (fun h1 => hap k h1 (.inl h2)) (fun h1 => by have := hos k h2; omega)) (fun h2 => by have := h1.2; omega),
          fun k hk => hk.1.elim .inl (fun h => .inr (by omega)), fun k hk => hk.elim (fun h => .inl (.inl h)) (fun h => .inr (by have := hC10.size; omega))⟩, hC12⟩
    · obtain rfl : j = F.length := by omega
      rw [List.take_length] at hE0 hP hh
      have hltI : ¬ ((F.length : Nat) : Int) < (F.length : Int) := by omega
      have hxW := (hC.block _ (blk_lt hx7) (fun e => e.elim (fun e => by have := hod _ e; omega) (fun e => by omega))).trans hx7
      have hroom := putsF_room (D := S.D) (H := L0) (l := F) (hFl ()) (hm ())
      have hblkW := hsto.blk
      have hpW : p < W.heap.size := Nat.lt_of_lt_of_le hplt (Nat.le_trans hB8.size hsW)
      have HS := hid (And.intro hE0 (And.intro hsto (And.intro hstay hC)))
      generalize hq : putsF S.D L0 F = q at hP hh hroom HS
      have HQ := hid hq
      clear hq
      obtain ⟨q1, D', H'⟩ := q
      dsimp only at hP hh hroom
      have hfl := flip_any (w := W.drew) (m := ⟨N1, g1, K1⟩) (hP.bound.step (w1 := W.drew) (fun _ _ _ => rfl)) HNX.out.2 hroom (fun k hk => hk.2)
      unfold manV at hfl
      dsimp only at hfl
      obtain ⟨E2, hE2⟩ : ∃ E2, (flipF D' ⟨N1, g1, K1⟩).1 = E2 := ⟨_, rfl⟩
      obtain ⟨D2, hD2⟩ : ∃ D2, (flipF D' ⟨N1, g1, K1⟩).2 = D2 := ⟨_, rfl⟩
      rw [hE2, hD2] at hfl
      have HE := hid (And.intro hE2 hD2)
      have HH := hid hh
      have HKEEP := hid (And.intro hx7 hB8)
      clear hE0 hsto hstay hC hKF hx7 hf0 hR' hd h hn hFs hFe hod hon hos hap hnr hmp hne hroom hP hE2 hD2 hh hlen hB8 hm
      have hs0 : W.drew.cell? ⟨p, 0, none⟩ = some (.pointer (some ⟨pd, 0, none⟩)) := hblkW.c0
      have hxd : W.drew.heap[w3.heap.size]? = some (.cells #[.int .u64 N1, .int .u64 g1, .int .i64 K1] 29 (0, 0)) := hxW
      have hxlt := blk_lt hxW
      go_wp2_with fail
      refine wp_region_plan [] (.take 0 (.take 1 (.take 2 (.take 3 (.take 4 (.take 5 (.run 6 (.run 7 (.take 8 .done))))))))) (fun W' => W'.cell? ⟨p, 0, none⟩ = some (.pointer (some ⟨pd, 0, none⟩)) ∧ W'.heap[w3.heap.size]? = some (.cells #[.int .u64 N1, .int .u64 g1, .int .i64 K1] 29 (0, 0))) (by kernel_rfl) (by kernel_rfl) (fun c a d v w h => by cases d <;> exact h) ⟨hs0, hxd⟩ ?_
      iterate 6 (apply plan_take rfl rfl; (case hy => (intro w' hS; have s0 := hS.1; have z0 := cell_of_row _ _ 0 _ _ _ hS.2; have z1 := cell_of_row _ _ 1 _ _ _ hS.2; have z2 := cell_of_row _ _ 2 _ _ _ hS.2; simp at z0 z1 z2; clear hS; go_simp; try exact rfl)); go_simp)
      refine plan_run_on rfl rfl (fun J hJ => ?_)
      go_simp
      refine hfl.mono ?_
      rintro e w10 ⟨rfl, hP10, hC10⟩
      have hnS : ∀ k, k < w7.heap.size → ¬ okd k → ¬ ((okd k ∨ w7.heap.size ≤ k) ∧ k < W.heap.size) := fun k h1 h2 h3 => h3.1.elim h2 (fun h => by omega)
      have hC10' : Chg (fun k => (okd k ∨ w7.heap.size ≤ k) ∧ k < W.heap.size) W w10 := ((Chg.refl _ W).drew).then_ hC10 (fun k hk => .inl hk)
      have hpn : ¬ okd p := fun e => HZ.out.2.2.2.1 p e (.inl H0.out.2.1.okp)
      have hs10 : w10.cell? ⟨p, 0, none⟩ = some (.pointer (some ⟨pd, 0, none⟩)) := hC10'.cell_ hblkW.c0 (hnS p (by have := HKEEP.out.2.size; omega) hpn)
      have hx10 := (hC10'.block _ hxlt (hnS _ (by omega) (fun e => by have := HZ.out.1 _ e; omega))).trans hxW
      have hsto10 := HS.out.2.1.step (w1 := w10) (fun k hk hlt2 => hC10'.block k hlt2 (hnS k (by have := HZ.out.2.2.1 k hk; have := HKEEP.out.2.size; omega) (fun e => HZ.out.2.2.2.1 k e (.inl hk))))
      refine hJ _ _ _ (fun _ h => h) ⟨hs10, hx10⟩ ?_
      clear hJ J hfl hxd hs0
      have HF := hid (And.intro hP10 hC10')
      clear hP10 hC10 hC10'
      by_cases hE : E2 = 0
      · subst hE
        refine plan_run_on rfl rfl (fun J hJ => ?_)
        go_simp
        refine (met_ok _).mono ?_
        rintro e w11 ⟨rfl, rfl⟩
        refine hJ _ _ _ (fun _ h => h) ⟨hs10, hx10⟩ ?_
        clear hJ J
        apply plan_take rfl rfl
        case hy => (intro w' hS; clear hS; go_simp; try exact rfl)
        go_simp
        refine plan_done ?_
        have hb10 := hsto10.blk
        have y0 := hb10.c0
        have y1 := hb10.c1
        have y2 := hb10.c2
        have y3 := hb10.c3
        have y4 := hb10.c4
        have y5 := hb10.c5
        have f1 := hb10.free 1
        have f2 := hb10.free 2
        have f3 := hb10.free 3
        have f4 := hb10.free 4
        have f5 := hb10.free 5
        have z0 := cell_of_row _ _ 0 _ _ _ hx10
        have z1 := cell_of_row _ _ 1 _ _ _ hx10
        have z2 := cell_of_row _ _ 2 _ _ _ hx10
        simp at z0 z1 z2
        have hnp : ¬ w3.heap.size = p := by omega
        have HB := hid (And.intro (setStore hb10 ⟨N1, g1, K1⟩ w4.heap.size mn) (chg5 w10 p (.int .u64 N1) (.int .u64 g1) (.int .i64 K1) (.pointer (some ⟨w4.heap.size, 0, none⟩)) (.map (some mn))))
        have HT := hid hsto10
        clear hb10 hsto10 hx10 hblkW hxW hs10
        go_wp2_with fail
        go_ret
        obtain ⟨hE0, hsto, hstay, hC⟩ := HS.out
        subst hE0
        obtain ⟨hE2, hD2⟩ := HE.out
        obtain ⟨hod, hon, hos, hap, hnr, hmp, hne⟩ := HZ.out
        obtain ⟨hd, h, hn, hFs, hFe, hBe⟩ := H0.out
        obtain ⟨hP10, hC10⟩ := HF.out
        obtain ⟨hx7, hB8⟩ := HKEEP.out
        have hq := HQ.out
        rw [← HL0.out, ← HNX.out.1] at hq
        rw [← HNX.out.1] at hE2 hD2
        have hR := compactF_done (by rw [hBe]; omega) hg (by rw [HB1.out.1, HB1.out.2.1]; unfold mostN; simp at hN2 hg2; omega) hq hE2 hD2
        rw [HR.out, HNX.out.1] at hR
        have hCa := ((Chg.of_below hB8 (fun k => okd k ∨ k = p)).then_ hC (fun k hk => hk.elim (fun e => .inl (.inl e)) (fun e => .inr (by omega)))).then_ hC10 (fun k hk => hk.1.elim (fun e => .inl (.inl e)) (fun e => .inr (by have := hB8.size; omega)))
        rw [if_pos rfl] at hR
        rw [hR]
        obtain ⟨hst, hcp⟩ := HB.out
        generalize hwf : ((((w10.setCell ⟨p, 1, none⟩ (.int .u64 N1)).setCell ⟨p, 2, none⟩ (.int .u64 g1)).setCell ⟨p, 3, none⟩ (.int .i64 K1)).setCell ⟨p, 4, none⟩ (.pointer (some ⟨w4.heap.size, 0, none⟩))).setCell ⟨p, 5, none⟩ (.map (some mn)) = wf at hst hcp ⊢
        have hold : ∀ k, k < w.heap.size → ¬ okd k → k ≠ p → wf.heap[k]? = w.heap[k]? := fun k hk h1 h2 => (hcp.block k (Nat.lt_of_lt_of_le hk hCa.size) h2).trans (hCa.block k hk (fun e => e.elim h1 h2))
        have hokp := h.okp
        have hszf := hcp.size
        have hszW : W.heap.size ≤ w10.heap.size := hC10.size
        have hszA : w.heap.size ≤ w10.heap.size := hCa.size
        have hszB := hB8.size
        refine ⟨rfl, ⟨_, fun k => (ok k ∨ okn k ∨ k = mn) ∨ k = w4.heap.size, hP10.step (fun k hk hlt => hcp.block k hlt (fun e => hk.elim (fun hk => hk.1.elim (fun hk => hap k hk (.inl (e ▸ hokp))) (fun hk => by omega)) (fun hk => by simp at hk; omega))), ⟨okn, w4.heap.size, mn, dv, ?_⟩, ?_, fun k hk => hk.elim (fun hk => hk.1.elim .inl (fun e => .inr (by omega))) (fun e => .inr (by simp at e; omega)), fun k hk => hk.elim .inl (fun e => .inr (by omega))⟩, hCa.then_ hcp (fun k hk => .inl (.inr hk))⟩
        · refine ⟨.inl (.inl hokp), .inr rfl, .inl (.inr (.inr rfl)), fun k hk => ⟨.inl (.inr (.inl hk)), by have := hon k hk; omega, (hnr k hk).1, by have := hon k hk; omega, (hnr k hk).2⟩, hst, ?_, ?_, ?_, fun db e => .inl (.inl (h.okd db e))⟩
          · exact HH.out.step ((hcp.block _ (by omega) (by omega)).trans (hC10.block _ (by omega) (fun e => e.1.elim (fun e => by have := hod _ e; omega) (fun e => by omega))))
          · exact hn.step (hold mn hnlt (fun e => hap mn e (.inr (.inr rfl))) hmp) (fun k hk hlt => hold k hlt (fun e => hap k e (.inr (.inl hk))) (hnr k hk).1)
          · have hdd := h.dead
            unfold DeadV at hdd ⊢
            split at hdd
            · rename_i hq1
              rw [if_pos hq1]
              obtain ⟨db, x, q1, q2⟩ := hdd
              refine ⟨db, x, q1, (hold db (blk_lt q2) (fun e => hap db e (.inl (h.okd db q1))) (fun e => ?_)).trans q2⟩
              have hb := h.blk
              unfold SBlk at hb
              rw [← e, q2] at hb
              cases hb
            · rename_i hq1
              rw [if_neg hq1]
              exact hdd
        · intro k h1 h2
          rcases h1 with ⟨h1, h1'⟩ | h1
          · rcases h2 with h2 | h2
            · rcases h1 with h1 | h1
              · exact hap k h1 h2
              · rcases h2 with h2 | h2 | h2
                · have := hos k h2; omega
                · have := hon k h2; omega
                · omega
            · rcases h1 with h1 | h1
              · have := hod k h1; omega
              · omega
          · simp at h1
            rcases h2 with (h2 | h2 | h2) | h2
            · have := hos k h2; omega
            · have := hon k h2; omega
            · omega
            · omega
      · have hme := met_err hsto10 hE
        have hE3 : (E2 != 0) = true := by simpa using hE
        refine plan_run_on rfl rfl (fun J hJ => ?_)
        go_simp
        refine hme.mono ?_
        rintro e w11 ⟨rfl, h11, hC11⟩
        refine hJ _ _ _ (fun _ h => h) ⟨h11.blk.c0, (hC11.block _ (blk_lt hx10) (by omega)).trans hx10⟩ ?_
        clear hJ J hme
        apply plan_take rfl rfl
        case hy => (intro w' hS; clear hS; go_simp; try exact rfl)
        go_simp
        refine plan_done ?_
        have HB := hid (And.intro h11 hC11)
        clear h11 hC11 hsto10 hx10 hblkW hxW hs10
        go_wp2_with fail
        go_ret
        obtain ⟨hE0, hsto, hstay, hC⟩ := HS.out
        subst hE0
        obtain ⟨hE2, hD2⟩ := HE.out
        obtain ⟨hod, hon, hos, hap, hnr, hmp, hne⟩ := HZ.out
        obtain ⟨hd, h, hn, hFs, hFe, hBe⟩ := H0.out
        obtain ⟨hP10, hC10⟩ := HF.out
        obtain ⟨hx7, hB8⟩ := HKEEP.out
        have hq := HQ.out
        rw [← HL0.out, ← HNX.out.1] at hq
        rw [← HNX.out.1] at hE2 hD2
        have hR := compactF_done (by rw [hBe]; omega) hg (by rw [HB1.out.1, HB1.out.2.1]; unfold mostN; simp at hN2 hg2; omega) hq hE2 hD2
        rw [HR.out, HNX.out.1] at hR
        have hCa := ((Chg.of_below hB8 (fun k => okd k ∨ k = p)).then_ hC (fun k hk => hk.elim (fun e => .inl (.inl e)) (fun e => .inr (by omega)))).then_ hC10 (fun k hk => hk.1.elim (fun e => .inl (.inl e)) (fun e => .inr (by have := hB8.size; omega)))
        rw [if_neg hE] at hR
        rw [hR]
        obtain ⟨h11, hC11⟩ := HB.out
        have hokp := h.okp
        have hszB := hB8.size
        have hszW : W.heap.size ≤ w10.heap.size := hC10.size
        refine ⟨rfl, ⟨_, orNew ok w10, hP10.bound.step (fun k hk hlt => hC11.block k hlt (fun e => hk.1.elim (fun hk => hk.1.elim (fun hk => hap k hk (.inl (e ▸ hokp))) (fun hk => by omega)) (fun hk => by simp at hk; omega))), ⟨okr, hb, mb, _, h11.withD D2⟩, ?_, fun k hk => hk.1.elim (fun hk => hk.1.elim .inl (fun e => .inr (by omega))) (fun e => .inr (by simp at e; omega)), fun k hk => hk.elim (fun h => .inl (.inl h)) (fun h => .inr (by omega))⟩, hCa.then_ hC11 (fun k hk => .inl (.inr hk))⟩
        intro k h1 h2
        rcases h2 with h2 | h2
        · have := hos k h2
          rcases h1.1 with ⟨h1, _⟩ | h1
          · rcases h1 with h1 | h1
            · exact hap k h1 (.inl h2)
            · omega
          · simp at h1; omega
        · have := h1.2; omega
end Go.Proofs.YticogmpafehomaaGreatDoor
