/- The program's reader: what its inner functions do (int, count): they hand back, or give up. -/
import Derived.Test.YtiecljhgpbifjaaWireQ
set_option linter.unusedVariables false
set_option linter.unusedSimpArgs false
namespace Go.Proofs.Ytiecljhgpbifjaa
open Go.RowKit Go.Proofs.YtiecljhgpbifjaaW.PrintWords Go.Proofs.YtiecljhgpbifjaaW.PrintMore
attribute [local go_sem] max2_int min2_int max_two min_two

/-- What comes of bytes: a value and the bytes behind it, or an error. -/
abbrev Out (α : Type) := Except Int (α × List Int)
def oNext (n : Nat) (b : List Int) : Out (List Int) := if n ≤ b.length then .ok (b.take n, b.drop n) else .error 40
def oNum (n : Nat) (b : List Int) : Out Int := if n ≤ b.length then .ok (val (b.take n), b.drop n) else .error 40
def oInt (b : List Int) : Out Int := match oNum 4 b with
  | .ok (v, r) => if 2147483647 < v then .error 42 else .ok (v, r)
  | .error e => .error e
def oCount (most : Int) (b : List Int) : Out Int := match oInt b with
  | .ok (v, r) => if max most 0 < v then .error 3 else .ok (v, r)
  | .error e => .error e
def oBool (b : List Int) : Out Bool := match oNum 1 b with
  | .ok (v, r) => if 1 < v then .error 42 else .ok (decide (v = 1), r)
  | .error e => .error e
/-- How an inner function ends: with the value of the outcome (Q), or it gives up. -/
def Ends {α : Type} (ok : Nat → Prop) (p : Nat) (w : World) (o : Out α) (Q : α → World → Value → Prop) (e : Ending) (w' : World) : Prop :=
  Chg (fun k => k = p) w w' ∧ match o with
  | .ok (v, r) => (∃ u, e = .returned u ∧ Q v w' u) ∧ PRd w' ok p r 0
  | .error x => e = .panicked (gives x) ∧ ∃ b', PRd w' ok p b' 0
theorem Ends.good {α : Type} {ok : Nat → Prop} {p : Nat} {w w' : World} {o : Out α} {Q : α → World → Value → Prop} {v : α} {r : List Int} {u : Value} (ho : o = .ok (v, r)) (hc : Chg (fun k => k = p) w w') (hq : Q v w' u) (hp : PRd w' ok p r 0) : Ends ok p w o Q (.returned u) w' := by
  subst ho; exact ⟨hc, ⟨_, rfl, hq⟩, hp⟩
theorem Ends.bad {α : Type} {ok : Nat → Prop} {p : Nat} {w w' : World} {o : Out α} {Q : α → World → Value → Prop} {x : Int} {b' : List Int} (ho : o = .error x) (hc : Chg (fun k => k = p) w w') (hp : PRd w' ok p b' 0) : Ends ok p w o Q (.panicked (gives x)) w' := by
  subst ho; exact ⟨hc, rfl, _, hp⟩
/-- Both ways out of it. -/
theorem Ends.both {α : Type} {ok : Nat → Prop} {p : Nat} {w w' : World} {o : Out α} {Q : α → World → Value → Prop} {e : Ending} (h : Ends ok p w o Q e w') : Chg (fun k => k = p) w w' ∧
    ((∃ v r u, o = .ok (v, r) ∧ e = .returned u ∧ Q v w' u ∧ PRd w' ok p r 0) ∨ (∃ x b', o = .error x ∧ e = .panicked (gives x) ∧ PRd w' ok p b' 0)) := by
  obtain ⟨hc, hm⟩ := h
  refine ⟨hc, ?_⟩
  rcases o with x | ⟨v, r⟩
  · obtain ⟨he, b', hb⟩ := hm
    exact .inr ⟨x, b', rfl, he, hb⟩
  · obtain ⟨⟨u, he, hq⟩, hp⟩ := hm
    exact .inl ⟨v, r, u, rfl, he, hq, hp⟩
theorem chg_p {p : Nat} {w w1 w2 : World} (h : Chg (fun k => k = p) w w1) (k : Chg (fun k => k = p) w1 w2) : Chg (fun k => k = p) w w2 := h.then_ k (fun _ h => .inl h)
theorem val_take {b : List Int} (hB : Bytes b) {n : Nat} (hn : n ≤ 8) : 0 ≤ val (b.take n) ∧ val (b.take n) < 18446744073709551616 :=
  ⟨(val_lt (hB.take n)).1, val_le8 (hB.take n) (by rw [List.length_take]; omega)⟩
theorem value_next {w : World} {ok : Nat → Prop} {A : Option Addr} {c n : Nat} {b : List Int} (hr : RB w ok A (b.take n)) (hB : Bytes b) (hn : n ≤ b.length) (h8 : n ≤ 8) :
  Calls Try.prog 64 #[.slice A n c] w fun e w' => e = .returned (.int .u64 (val (b.take n))) ∧ w' = w := by
  have hl : (b.take n).length = n := by rw [List.length_take]; omega
  have := value_any (c := c) (Kd.F_now hr) (hB.take n) (by omega)
  rwa [hl] at this
theorem int_in {w : World} {ok : Nat → Prop} {p : Nat} {b : List Int} (h : PRd w ok p b 0) :
  Calls Try.prog 75 #[.pointer (some ⟨p, 0, none⟩)] w (Ends ok p w (oInt b) fun v _ u => u = .int .i64 v ∧ 0 ≤ v ∧ v ≤ 2147483647) := by
  have hB := h.bytes
  by_cases hn : 4 ≤ b.length
  · have hv := val_take hB (n := 4) (by omega)
    have ho : oInt b = if 2147483647 < val (b.take 4) then .error 42 else .ok (val (b.take 4), b.drop 4) := by unfold oInt oNum; rw [if_pos hn]
    generalize oInt b = o at ho
    go_enter Try.func75, Try.ntmps75
    go_wp2_with fail
    refine (next_some (n := 4) h hn).mono ?_
    rintro e w1 ⟨A, c, rfl, hr, h1, hc, c1⟩
    go_wp2_with fail
    refine (value_next (c := c) hr hB hn (by omega)).mono ?_
    rintro e w2 ⟨rfl, rfl⟩
    generalize val (b.take 4) = v at hv ho
    by_cases hbig : 2147483647 < v
    · rw [if_pos hbig] at ho
      have HO := hid ho
      clear ho
      go_wp2
      exact ⟨rfl, Ends.bad HO.out c1 h1⟩
    · rw [if_neg hbig] at ho
      have HO := hid ho
      clear ho
      have hw1 : IntKind.i64.wrap v = v := by rw [IntKind.wrap_i64]; omega
      go_wp2
      go_ret
      exact Ends.good HO.out c1 ⟨rfl, hv.1, by omega⟩ h1
  · have ho : oInt b = .error 40 := by unfold oInt oNum; rw [if_neg hn]
    generalize oInt b = o at ho
    have HO := hid ho
    clear ho
    go_enter Try.func75, Try.ntmps75
    go_wp2_with fail
    refine (next_none (n := 4) h (by omega)).mono ?_
    rintro e w1 ⟨rfl, rfl⟩
    go_wp2
    exact ⟨rfl, Ends.bad HO.out (Chg.refl _ _) h⟩
theorem count_in {w : World} {ok : Nat → Prop} {p : Nat} {b : List Int} (most : Int) (h : PRd w ok p b 0) :
  Calls Try.prog 78 #[.pointer (some ⟨p, 0, none⟩), .int .i64 most] w (Ends ok p w (oCount most b) fun v _ u => u = .int .i64 v ∧ 0 ≤ v ∧ v ≤ 2147483647) := by
  have ho : oCount most b = match oInt b with | .ok (v, r) => if max most 0 < v then .error 3 else .ok (v, r) | .error e => .error e := rfl
  generalize oCount most b = o at ho
  have HO := hid ho
  clear ho
  go_enter Try.func78, Try.ntmps78
  go_wp2_with fail
  refine (int_in h).mono ?_
  intro e w1 he
  obtain ⟨c1, ⟨v, r, u, h1, rfl, ⟨rfl, hv0, hv1⟩, h2⟩ | ⟨x, b', h1, rfl, h2⟩⟩ := he.both
  · have ho := HO.out
    rw [h1] at ho
    dsimp only at ho
    have go : ∀ m, m = max most 0 → (if m < v then o = .error 3 else o = .ok (v, r)) := by
      rintro m rfl
      by_cases hb : max most 0 < v
      · rw [if_pos hb] at ho ⊢; exact ho
      · rw [if_neg hb] at ho ⊢; exact ho
    clear HO ho h1 he
    by_cases hm : most < 0
    · have hg := go 0 (by omega)
      clear go
      by_cases hbig : 0 < v
      · rw [if_pos hbig] at hg
        have HO2 := hid hg
        clear hg
        go_wp2
        exact ⟨rfl, Ends.bad HO2.out c1 h2⟩
      · rw [if_neg hbig] at hg
        have HO2 := hid hg
        clear hg
        go_wp2
        go_ret
        exact Ends.good HO2.out c1 ⟨rfl, hv0, hv1⟩ h2
    · have hg := go most (by omega)
      clear go
      by_cases hbig : most < v
      · rw [if_pos hbig] at hg
        have HO2 := hid hg
        clear hg
        go_wp2
        exact ⟨rfl, Ends.bad HO2.out c1 h2⟩
      · rw [if_neg hbig] at hg
        have HO2 := hid hg
        clear hg
        go_wp2
        go_ret
        exact Ends.good HO2.out c1 ⟨rfl, hv0, hv1⟩ h2
  · have ho := HO.out
    rw [h1] at ho
    have HO2 := hid ho
    clear HO ho h1 he
    go_wp2
    exact ⟨rfl, Ends.bad HO2.out c1 h2⟩

theorem addr_add0 (a : Addr) : a.add 0 = a := by
  rcases a with ⟨k, o, v⟩
  cases v <;> simp [Addr.add]
/-! ### What is handed to guarded -/
/-- A variable that a closure has captured: it holds the reader. -/
structure Held (w : World) (p rb : Nat) : Prop where
  cell : w.cell? ⟨rb, 0, none⟩ = some (.pointer (some ⟨p, 0, none⟩))
  ne : rb ≠ p
theorem Held.chg {w w1 : World} {p rb : Nat} (h : Held w p rb) (c : Chg (fun k => k = p) w w1) : Held w1 p rb := ⟨c.cell_ h.cell h.ne, h.ne⟩
theorem bool_in {w : World} {ok : Nat → Prop} {p rb : Nat} {b : List Int} (h : PRd w ok p b 0) (hr : Held w p rb) :
  Calls Try.prog 68 #[.pointer (some ⟨rb, 0, none⟩)] w (Ends ok p w (oBool b) fun v _ u => u = .bool v) := by
  have hB := h.bytes
  have hrc := hr.cell
  by_cases hn : 1 ≤ b.length
  · have ho : oBool b = if 1 < val (b.take 1) then .error 42 else .ok (decide (val (b.take 1) = 1), b.drop 1) := by unfold oBool oNum; rw [if_pos hn]
    generalize oBool b = o at ho
    have hx : val (b.take 1) = b[0] := by cases b with
      | nil => simp at hn
      | cons x b => simp [val]
    rw [hx] at ho
    have hx2 := hB b[0] (List.getElem_mem hn)
    go_enter Try.func68, Try.ntmps68
    go_wp2_with fail
    refine (next_some (n := 1) h hn).mono ?_
    rintro e w1 ⟨A, c, rfl, hr, h1, hc, c1⟩
    have hl1 : (b.take 1).length = 1 := by rw [List.length_take]; omega
    obtain ⟨ad, rfl, hcell⟩ := (RB_int hr).at_ 0 (by omega) (by omega)
    have hrd : rd (b.take 1) 0 = b[0] := by simp [rd, List.getD_eq_getElem?_getD, List.getElem?_take, List.getElem?_eq_getElem hn]
    rw [hrd] at hcell
    have ha0 : ad.add 0 = ad := addr_add0 ad
    simp [ha0] at hcell
    generalize b[0] = x at hcell hx2 ho
    by_cases hbig : 1 < x
    · rw [if_pos hbig] at ho
      have HO := hid ho
      clear ho hrd hx
      go_wp2
      exact ⟨rfl, Ends.bad HO.out c1 h1⟩
    · rw [if_neg hbig] at ho
      have HO := hid ho
      clear ho hrd hx
      go_wp2
      go_ret
      exact Ends.good HO.out c1 rfl h1
  · have ho : oBool b = .error 40 := by unfold oBool oNum; rw [if_neg hn]
    generalize oBool b = o at ho
    have HO := hid ho
    clear ho
    go_enter Try.func68, Try.ntmps68
    go_wp2_with fail
    refine (next_none (n := 1) h (by omega)).mono ?_
    rintro e w1 ⟨rfl, rfl⟩
    go_wp2
    exact ⟨rfl, Ends.bad HO.out (Chg.refl _ _) h⟩
theorem byte_in {w : World} {ok : Nat → Prop} {p rb : Nat} {b : List Int} (h : PRd w ok p b 0) (hr : Held w p rb) :
  Calls Try.prog 70 #[.pointer (some ⟨rb, 0, none⟩)] w (Ends ok p w (oNum 1 b) fun v _ u => u = .int .u8 v) := by
  have hB := h.bytes
  have hrc := hr.cell
  by_cases hn : 1 ≤ b.length
  · have ho : oNum 1 b = .ok (val (b.take 1), b.drop 1) := by unfold oNum; rw [if_pos hn]
    have hx : val (b.take 1) = b[0] := by cases b with
      | nil => simp at hn
      | cons x b => simp [val]
    rw [hx] at ho
    have hx2 := hB b[0] (List.getElem_mem hn)
    generalize oNum 1 b = o at ho
    have HO := hid ho
    clear ho
    go_enter Try.func70, Try.ntmps70
    go_wp2_with fail
    refine (next_some (n := 1) h hn).mono ?_
    rintro e w1 ⟨A, c, rfl, hr, h1, hc, c1⟩
    have hl1 : (b.take 1).length = 1 := by rw [List.length_take]; omega
    obtain ⟨ad, rfl, hcell⟩ := (RB_int hr).at_ 0 (by omega) (by omega)
    have hrd : rd (b.take 1) 0 = b[0] := by simp [rd, List.getD_eq_getElem?_getD, List.getElem?_take, List.getElem?_eq_getElem hn]
    rw [hrd] at hcell
    have ha0 : ad.add 0 = ad := addr_add0 ad
    simp [ha0] at hcell
    clear hrd hx
    go_wp2
    go_ret
    exact Ends.good HO.out c1 rfl h1
  · have ho : oNum 1 b = .error 40 := by unfold oNum; rw [if_neg hn]
    generalize oNum 1 b = o at ho
    have HO := hid ho
    clear ho
    go_enter Try.func70, Try.ntmps70
    go_wp2_with fail
    refine (next_none (n := 1) h (by omega)).mono ?_
    rintro e w1 ⟨rfl, rfl⟩
    go_wp2
    exact ⟨rfl, Ends.bad HO.out (Chg.refl _ _) h⟩
theorem short_in {w : World} {ok : Nat → Prop} {p rb : Nat} {b : List Int} (h : PRd w ok p b 0) (hr : Held w p rb) :
  Calls Try.prog 73 #[.pointer (some ⟨rb, 0, none⟩)] w (Ends ok p w (oNum 2 b) fun v _ u => u = .int .i64 v) := by
  have hB := h.bytes
  have hrc := hr.cell
  by_cases hn : 2 ≤ b.length
  · have ho : oNum 2 b = .ok (val (b.take 2), b.drop 2) := by unfold oNum; rw [if_pos hn]
    have hv := val_lt (hB.take 2)
    have hl2 : (b.take 2).length = 2 := by rw [List.length_take]; omega
    rw [hl2] at hv
    have hw1 : IntKind.i64.wrap (val (b.take 2)) = val (b.take 2) := by rw [IntKind.wrap_i64]; omega
    generalize oNum 2 b = o at ho
    have HO := hid ho
    clear ho
    go_enter Try.func73, Try.ntmps73
    go_wp2_with fail
    refine (next_some (n := 2) h hn).mono ?_
    rintro e w1 ⟨A, c, rfl, hr, h1, hc, c1⟩
    go_wp2_with fail
    refine (value_next (c := c) hr hB hn (by omega)).mono ?_
    rintro e w2 ⟨rfl, rfl⟩
    go_wp2
    go_ret
    exact Ends.good HO.out c1 rfl h1
  · have ho : oNum 2 b = .error 40 := by unfold oNum; rw [if_neg hn]
    generalize oNum 2 b = o at ho
    have HO := hid ho
    clear ho
    go_enter Try.func73, Try.ntmps73
    go_wp2_with fail
    refine (next_none (n := 2) h (by omega)).mono ?_
    rintro e w1 ⟨rfl, rfl⟩
    go_wp2
    exact ⟨rfl, Ends.bad HO.out (Chg.refl _ _) h⟩
theorem long_in {w : World} {ok : Nat → Prop} {p rb : Nat} {b : List Int} (h : PRd w ok p b 0) (hr : Held w p rb) :
  Calls Try.prog 63 #[.pointer (some ⟨rb, 0, none⟩)] w (Ends ok p w (oNum 8 b) fun v _ u => u = .int .u64 v) := by
  have hB := h.bytes
  have hrc := hr.cell
  by_cases hn : 8 ≤ b.length
  · have ho : oNum 8 b = .ok (val (b.take 8), b.drop 8) := by unfold oNum; rw [if_pos hn]
    generalize oNum 8 b = o at ho
    have HO := hid ho
    clear ho
    go_enter Try.func63, Try.ntmps63
    go_wp2_with fail
    refine (next_some (n := 8) h hn).mono ?_
    rintro e w1 ⟨A, c, rfl, hr, h1, hc, c1⟩
    go_wp2_with fail
    refine (value_next (c := c) hr hB hn (by omega)).mono ?_
    rintro e w2 ⟨rfl, rfl⟩
    go_wp2
    go_ret
    exact Ends.good HO.out c1 rfl h1
  · have ho : oNum 8 b = .error 40 := by unfold oNum; rw [if_neg hn]
    generalize oNum 8 b = o at ho
    have HO := hid ho
    clear ho
    go_enter Try.func63, Try.ntmps63
    go_wp2_with fail
    refine (next_none (n := 8) h (by omega)).mono ?_
    rintro e w1 ⟨rfl, rfl⟩
    go_wp2
    exact ⟨rfl, Ends.bad HO.out (Chg.refl _ _) h⟩
theorem intc_in {w : World} {ok : Nat → Prop} {p rb : Nat} {b : List Int} (h : PRd w ok p b 0) (hr : Held w p rb) :
  Calls Try.prog 74 #[.pointer (some ⟨rb, 0, none⟩)] w (Ends ok p w (oInt b) fun v _ u => u = .int .i64 v) := by
  have hrc := hr.cell
  go_enter Try.func74, Try.ntmps74
  go_wp2_with fail
  refine (int_in h).mono ?_
  intro e w1 he
  obtain ⟨c1, ⟨v, r, u, h1, rfl, ⟨rfl, hv0, hv1⟩, h2⟩ | ⟨x, b', h1, rfl, h2⟩⟩ := he.both
  · have HO := hid h1
    clear h1 he
    go_wp2
    go_ret
    exact Ends.good HO.out c1 rfl h2
  · have HO := hid h1
    clear h1 he
    go_wp2
    exact ⟨rfl, Ends.bad HO.out c1 h2⟩
end Go.Proofs.Ytiecljhgpbifjaa
