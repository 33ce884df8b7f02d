/- The program's reader: guarded, for each kind of value: what gives up is caught, and kept as the reader's error. -/
import Derived.Test.YtiecljhgpbifjaaWireP
import Derived.Defers
import Derived.Recover
import Derived.Laws.Pointers
set_option linter.unusedVariables false
set_option linter.unusedSimpArgs false
namespace Go.Proofs.Ytiecljhgpbifjaa
open Go.RowKit Go.Proofs.YtiecljhgpbifjaaW.PrintWords
theorem assert_failure (v : Value) (W : World) : (Instr.typeAssert (.iface 81 v) 20 81 true).run Try.prog W = .ok (.tuple #[v, .bool true]) W := by
  simp [Instr.typeAssert, run_underlying (show Try.prog.underlying 81 = some (.int .i64) from by kernel_rfl)]
/-- How a function ends that has caught what its inner one gave up with. -/
def Ended {α : Type} (ok : Nat → Prop) (p : Nat) (w : World) (o : Out α) (Q : α → World → Value → Prop) (zero : Value) (e : Ending) (w' : World) : Prop :=
  Chg (fun k => k = p) w w' ∧ match o with
  | .ok (v, r) => (∃ u, e = .returned u ∧ Q v w' u) ∧ PRd w' ok p r 0
  | .error x => e = .returned zero ∧ ∃ b', PRd w' ok p b' x
theorem Ended.good {α : Type} {ok : Nat → Prop} {p : Nat} {w w' : World} {o : Out α} {Q : α → World → Value → Prop} {zero : Value} {v : α} {r : List Int} {u : Value} (ho : o = .ok (v, r)) (hc : Chg (fun k => k = p) w w') (hq : Q v w' u) (hp : PRd w' ok p r 0) : Ended ok p w o Q zero (.returned u) w' := by
  subst ho; exact ⟨hc, ⟨_, rfl, hq⟩, hp⟩
theorem Ended.bad {α : Type} {ok : Nat → Prop} {p : Nat} {w w' : World} {o : Out α} {Q : α → World → Value → Prop} {zero : Value} {x : Int} {b' : List Int} (ho : o = .error x) (hc : Chg (fun k => k = p) w w') (hp : PRd w' ok p b' x) : Ended ok p w o Q zero (.returned zero) w' := by
  subst ho; exact ⟨hc, rfl, _, hp⟩
theorem make_func (fn : Fn) (first cap : Array Value) (w : World) : (Instr.makeFunc fn first cap).run Try.prog w = .ok (.func fn first cap) w := rfl

theorem catch_idle_bool (v r : Addr) (w : World) :
    CallsD Try.prog 85 #[.pointer (some v), .pointer (some r)] .returning w fun e u' w' => e = .returned (.tuple #[]) ∧ u' = .returning ∧ w' = w := by
  refine callsD_of_wpS Try.func85 rfl fun c₀ cs hu => ?_
  apply wpS_seq
  apply wpS_region
  simp [wpOpsS, go_sem, recoverD, hu, Try.ntmps85, Exit.thenS]
  refine wpS_of_wp ?_
  have hst : (#[Value.pointer (some v), Value.pointer (some r)] ++ (Array.replicate 15 undef).setIfInBounds 4 Value.nilIface : Array Value) = #[.pointer (some v), .pointer (some r), undef, undef, undef, undef, Value.nilIface, undef, undef, undef, undef, undef, undef, undef, undef, undef, undef] := rfl
  rw [hst]
  go_wp2
  clear hst
  cases c₀
  simp_all [bodyPostS, results, Try.results85]
theorem catch_panic_bool (bv br p : Nat) (u : Bool) (x y : Int) (older : List PanicEntry) (w : World) (hv : w.cell? ⟨bv, 0, none⟩ = some (.bool u)) (hvz : w.frozen? ⟨bv, 0, none⟩ = false) (hr : w.cell? ⟨br, 0, none⟩ = some (.pointer (some ⟨p, 0, none⟩)))
    (hp : w.cell? ⟨p, 1, none⟩ = some (.int .i64 y)) (hpz : w.frozen? ⟨p, 1, none⟩ = false) (h1 : ¬ br = bv) (h2 : ¬ p = bv) :
    CallsD Try.prog 85 #[.pointer (some ⟨bv, 0, none⟩), .pointer (some ⟨br, 0, none⟩)] (.panicking ({ v := .iface 81 (.int .i64 x), recovered := false } :: older)) w fun e u' w' =>
      e = .returned (.tuple #[]) ∧ u' = .panicking ({ v := .iface 81 (.int .i64 x), recovered := true } :: older) ∧ w' = (w.setCell ⟨bv, 0, none⟩ (.bool false)).setCell ⟨p, 1, none⟩ (.int .i64 x) := by
  have hr2 : (w.setCell ⟨bv, 0, none⟩ (.bool false)).cell? ⟨br, 0, none⟩ = some (.pointer (some ⟨p, 0, none⟩)) := by rw [World.cell?_setCell_other _ _ _ _ (by simp [h1])]; exact hr
  have hp2 : (w.setCell ⟨bv, 0, none⟩ (.bool false)).cell? ⟨p, 1, none⟩ = some (.int .i64 y) := by rw [World.cell?_setCell_other _ _ _ _ (by simp [h2])]; exact hp
  refine callsD_of_wpS Try.func85 rfl fun c₀ cs hu => ?_
  apply wpS_seq
  apply wpS_region
  simp [wpOpsS, go_sem, recoverD, hu, Try.ntmps85, Exit.thenS]
  refine wpS_of_wp ?_
  have hst : (#[Value.pointer (some ⟨bv, 0, none⟩), Value.pointer (some ⟨br, 0, none⟩)] ++ (Array.replicate 15 undef).setIfInBounds 4 (Value.iface 81 (.int .i64 x)) : Array Value) = #[.pointer (some ⟨bv, 0, none⟩), .pointer (some ⟨br, 0, none⟩), undef, undef, undef, undef, Value.iface 81 (.int .i64 x), undef, undef, undef, undef, undef, undef, undef, undef, undef, undef] := rfl
  rw [hst]
  clear hst
  have hta := assert_failure (.int .i64 x)
  go_wp2
  cases c₀
  simp_all [bodyPostS, results, Try.results85]
set_option maxRecDepth 100000 in
theorem guard_bool {α : Type} {w : World} {ok : Nat → Prop} {p K : Nat} {b : List Int} {cap : Array Value} {o : Out α} {Q : α → World → Value → Prop} (h : PRd w ok p b 0) (hok : ∀ k, ok k → k < w.heap.size)
    (hQ : ∀ v w1 u, Q v w1 u → ∃ u' : Bool, u = (fun (u : Bool) => .bool u) u') (hS : ∀ v w1 u j x, Q v w1 u → j < w.heap.size + 2 → Q v (w1.setCell ⟨j, 0, none⟩ x) u)
    (hE : ∀ args w, (callFunc K args).run Try.prog w = .ok (.enter K args) w) (hK : ∀ w1, Below w.heap.size w w1 → w.heap.size + 2 ≤ w1.heap.size → Calls Try.prog K cap w1 (Ends ok p w1 o Q)) :
  Calls Try.prog 67 #[.pointer (some ⟨p, 0, none⟩), .func (.func K) #[] cap] w (Ended ok p w o Q (.bool false)) := by
  have hp := h
  obtain ⟨_, _, A, c, hb, _, _, _⟩ := h
  have c1 := cell_of_row w p 1 _ _ _ hb
  simp at c1
  have hlt := hp.lt
  clear hb
  have hmf := make_func
  go_enter_defers Try.func67, Try.ntmps67
  go_wp2_with fail
  refine (hK _ (below_alloc (below_alloc (Below.refl _ _) _) _) (by simp)).mono ?_
  have b1 : Below w.heap.size w ((w.alloc (.cells #[.pointer (some ⟨p, 0, none⟩)] 38)).alloc (.cells #[.bool false] 4)) := below_alloc (below_alloc (Below.refl _ _) _) _
  intro e w2 he
  obtain ⟨c2, hh⟩ := he.both
  have c3 : Chg (fun k => k = p) w w2 := (Chg.of_below b1 _).then_ c2 (fun _ h => .inl h)
  clear he
  have ev : w2.heap[w.heap.size + 1]? = some (.cells #[.bool false] 4 (0, 0)) := by
    rw [c2.block _ (by simp) (by omega)]
    have := heap_alloc_new (w.alloc (.cells #[.pointer (some ⟨p, 0, none⟩)] 38)) (.cells #[.bool false] 4)
    rwa [World.size_alloc] at this
  have er : w2.heap[w.heap.size]? = some (.cells #[.pointer (some ⟨p, 0, none⟩)] 38 (0, 0)) := by
    rw [c2.block _ (by simp; omega) (by omega), Below.heap_alloc _ _ _ (by simp)]
    exact heap_alloc_new w _
  have cv := cell_of_row w2 (w.heap.size + 1) 0 _ _ _ ev
  have cvf := frozen_of_row w2 (w.heap.size + 1) 0 _ _ ev
  have cr := cell_of_row w2 w.heap.size 0 _ _ _ er
  have crf := frozen_of_row w2 w.heap.size 0 _ _ er
  simp at cv cr
  clear ev er
  rcases hh with ⟨v, r, u, h1, rfl, hq, h2⟩ | ⟨x, b', h1, rfl, h2⟩
  · obtain ⟨u, rfl⟩ := hQ _ _ _ hq
    have hfin : Ended ok p w o Q (.bool false) (.returned (.bool u)) (w2.setCell ⟨w.heap.size + 1, 0, none⟩ (.bool u)) := Ended.good h1 (c3.setCell (.inr (by simp)) _) (hS _ _ _ _ _ hq (by omega)) (h2.step (fun k hk hlt => Below.heap_setCell w2 ⟨w.heap.size + 1, 0, none⟩ _ k (fun e => by subst e; have := hok _ hk; dsimp only at this; omega)))
    have HF := hid hfin
    clear hfin h1 hq hQ hS hK
    go_wp2
    refine leaves_cons (f := 85) (args := #[.pointer (some ⟨w.heap.size + 1, 0, none⟩), .pointer (some ⟨w.heap.size, 0, none⟩)]) (by simp) (by simp [go_sem]) ?_
    refine (catch_idle_bool _ _ _).mono ?_
    rintro e u' w'' ⟨rfl, rfl, rfl⟩
    have hcu : (w2.setCell ⟨w.heap.size + 1, 0, none⟩ (.bool u)).cell? ⟨w.heap.size + 1, 0, none⟩ = some (.bool u) := World.cell?_setCell_same' _ _ _ (by rw [cv]; rfl)
    simp [Leaves, settle, results, Try.results67, go_sem, hcu]
    exact HF.out
  · have hp3 := h2.put x
    have hw3 : w2.setCell ⟨w.heap.size + 1, 0, none⟩ (.bool false) = w2.setCell ⟨w.heap.size + 1, 0, none⟩ (.bool false) := rfl
    have h3 : PRd (w2.setCell ⟨w.heap.size + 1, 0, none⟩ (.bool false)) ok p b' 0 := h2.step (fun k hk hlt => Below.heap_setCell w2 ⟨w.heap.size + 1, 0, none⟩ _ k (fun e => by subst e; have := hok _ hk; dsimp only at this; omega))
    have hfin : Ended ok p w o Q (.bool false) (.returned (.bool false)) ((w2.setCell ⟨w.heap.size + 1, 0, none⟩ (.bool false)).setCell ⟨p, 1, none⟩ (.int .i64 x)) := Ended.bad h1 ((c3.setCell (.inr (by simp)) _).setCell (.inl rfl) _) (h3.put x)
    obtain ⟨_, _, A', c', hb', _, _, _⟩ := h2
    have cp := cell_of_row w2 p 1 _ _ _ hb'
    have cpf := frozen_of_row w2 p 1 _ _ hb'
    simp at cp
    have HF := hid hfin
    clear hfin h1 hQ hS hK hb' hp3 h3 hw3
    unfold gives
    go_wp2
    refine leaves_cons (f := 85) (args := #[.pointer (some ⟨w.heap.size + 1, 0, none⟩), .pointer (some ⟨w.heap.size, 0, none⟩)]) (by simp) (by simp [go_sem]) ?_
    refine (catch_panic_bool (w.heap.size + 1) w.heap.size p false x 0 [] w2 cv cvf cr cp cpf (by omega) (by omega)).mono ?_
    rintro e u' w'' ⟨rfl, rfl, rfl⟩
    have hcu : (w2.setCell ⟨w.heap.size + 1, 0, none⟩ (.bool false)).cell? ⟨w.heap.size + 1, 0, none⟩ = some (.bool false) := World.cell?_setCell_same' _ _ _ (by rw [cv]; rfl)
    simp [Leaves, settle, results, Try.results67, go_sem, hcu]
    exact HF.out
theorem skip_bool {w : World} {ok : Nat → Prop} {p : Nat} {b : List Int} {x : Int} {f : Value} (h : PRd w ok p b x) (hx : ¬ x = 0) :
  Calls Try.prog 67 #[.pointer (some ⟨p, 0, none⟩), f] w fun e w' => e = .returned (.bool false) ∧ Below w.heap.size w w' := by
  have hlt := h.lt
  obtain ⟨_, _, A, c, hb, _, _, _⟩ := h
  have c1 := cell_of_row w p 1 _ _ _ hb
  simp at c1
  clear hb
  have b1 : Below w.heap.size w ((w.alloc (.cells #[.pointer (some ⟨p, 0, none⟩)] 38)).alloc (.cells #[.bool false] 4)) := below_alloc (below_alloc (Below.refl _ _) _) _
  have HB := hid b1
  clear b1
  go_enter_defers Try.func67, Try.ntmps67
  go_wp2
  simp [bodyPostD, Leaves, settle, results, Try.results67, go_sem]
  exact HB.out
theorem nil_bool {w : World} {f : Value} :
  Calls Try.prog 67 #[.pointer none, f] w fun e w' => e = .returned (.bool false) ∧ Below w.heap.size w w' := by
  have b1 : Below w.heap.size w ((w.alloc (.cells #[.pointer none] 38)).alloc (.cells #[.bool false] 4)) := below_alloc (below_alloc (Below.refl _ _) _) _
  have HB := hid b1
  clear b1
  go_enter_defers Try.func67, Try.ntmps67
  go_wp2
  simp [bodyPostD, Leaves, settle, results, Try.results67, go_sem]
  exact HB.out

theorem catch_idle_byte (v r : Addr) (w : World) :
    CallsD Try.prog 86 #[.pointer (some v), .pointer (some r)] .returning w fun e u' w' => e = .returned (.tuple #[]) ∧ u' = .returning ∧ w' = w := by
  refine callsD_of_wpS Try.func86 rfl fun c₀ cs hu => ?_
  apply wpS_seq
  apply wpS_region
  simp [wpOpsS, go_sem, recoverD, hu, Try.ntmps86, Exit.thenS]
  refine wpS_of_wp ?_
  have hst : (#[Value.pointer (some v), Value.pointer (some r)] ++ (Array.replicate 15 undef).setIfInBounds 4 Value.nilIface : Array Value) = #[.pointer (some v), .pointer (some r), undef, undef, undef, undef, Value.nilIface, undef, undef, undef, undef, undef, undef, undef, undef, undef, undef] := rfl
  rw [hst]
  go_wp2
  clear hst
  cases c₀
  simp_all [bodyPostS, results, Try.results86]
theorem catch_panic_byte (bv br p : Nat) (u : Int) (x y : Int) (older : List PanicEntry) (w : World) (hv : w.cell? ⟨bv, 0, none⟩ = some (.int .u8 u)) (hvz : w.frozen? ⟨bv, 0, none⟩ = false) (hr : w.cell? ⟨br, 0, none⟩ = some (.pointer (some ⟨p, 0, none⟩)))
    (hp : w.cell? ⟨p, 1, none⟩ = some (.int .i64 y)) (hpz : w.frozen? ⟨p, 1, none⟩ = false) (h1 : ¬ br = bv) (h2 : ¬ p = bv) :
    CallsD Try.prog 86 #[.pointer (some ⟨bv, 0, none⟩), .pointer (some ⟨br, 0, none⟩)] (.panicking ({ v := .iface 81 (.int .i64 x), recovered := false } :: older)) w fun e u' w' =>
      e = .returned (.tuple #[]) ∧ u' = .panicking ({ v := .iface 81 (.int .i64 x), recovered := true } :: older) ∧ w' = (w.setCell ⟨bv, 0, none⟩ (.int .u8 0)).setCell ⟨p, 1, none⟩ (.int .i64 x) := by
  have hr2 : (w.setCell ⟨bv, 0, none⟩ (.int .u8 0)).cell? ⟨br, 0, none⟩ = some (.pointer (some ⟨p, 0, none⟩)) := by rw [World.cell?_setCell_other _ _ _ _ (by simp [h1])]; exact hr
  have hp2 : (w.setCell ⟨bv, 0, none⟩ (.int .u8 0)).cell? ⟨p, 1, none⟩ = some (.int .i64 y) := by rw [World.cell?_setCell_other _ _ _ _ (by simp [h2])]; exact hp
  refine callsD_of_wpS Try.func86 rfl fun c₀ cs hu => ?_
  apply wpS_seq
  apply wpS_region
  simp [wpOpsS, go_sem, recoverD, hu, Try.ntmps86, Exit.thenS]
  refine wpS_of_wp ?_
  have hst : (#[Value.pointer (some ⟨bv, 0, none⟩), Value.pointer (some ⟨br, 0, none⟩)] ++ (Array.replicate 15 undef).setIfInBounds 4 (Value.iface 81 (.int .i64 x)) : Array Value) = #[.pointer (some ⟨bv, 0, none⟩), .pointer (some ⟨br, 0, none⟩), undef, undef, undef, undef, Value.iface 81 (.int .i64 x), undef, undef, undef, undef, undef, undef, undef, undef, undef, undef] := rfl
  rw [hst]
  clear hst
  have hta := assert_failure (.int .i64 x)
  go_wp2
  cases c₀
  simp_all [bodyPostS, results, Try.results86]
set_option maxRecDepth 100000 in
theorem guard_byte {α : Type} {w : World} {ok : Nat → Prop} {p K : Nat} {b : List Int} {cap : Array Value} {o : Out α} {Q : α → World → Value → Prop} (h : PRd w ok p b 0) (hok : ∀ k, ok k → k < w.heap.size)
    (hQ : ∀ v w1 u, Q v w1 u → ∃ u' : Int, u = (fun (u : Int) => .int .u8 u) u') (hS : ∀ v w1 u j x, Q v w1 u → j < w.heap.size + 2 → Q v (w1.setCell ⟨j, 0, none⟩ x) u)
    (hE : ∀ args w, (callFunc K args).run Try.prog w = .ok (.enter K args) w) (hK : ∀ w1, Below w.heap.size w w1 → w.heap.size + 2 ≤ w1.heap.size → Calls Try.prog K cap w1 (Ends ok p w1 o Q)) :
  Calls Try.prog 69 #[.pointer (some ⟨p, 0, none⟩), .func (.func K) #[] cap] w (Ended ok p w o Q (.int .u8 0)) := by
  have hp := h
  obtain ⟨_, _, A, c, hb, _, _, _⟩ := h
  have c1 := cell_of_row w p 1 _ _ _ hb
  simp at c1
  have hlt := hp.lt
  clear hb
  have hmf := make_func
  go_enter_defers Try.func69, Try.ntmps69
  go_wp2_with fail
  refine (hK _ (below_alloc (below_alloc (Below.refl _ _) _) _) (by simp)).mono ?_
  have b1 : Below w.heap.size w ((w.alloc (.cells #[.pointer (some ⟨p, 0, none⟩)] 38)).alloc (.cells #[.int .u8 0] 5)) := below_alloc (below_alloc (Below.refl _ _) _) _
  intro e w2 he
  obtain ⟨c2, hh⟩ := he.both
  have c3 : Chg (fun k => k = p) w w2 := (Chg.of_below b1 _).then_ c2 (fun _ h => .inl h)
  clear he
  have ev : w2.heap[w.heap.size + 1]? = some (.cells #[.int .u8 0] 5 (0, 0)) := by
    rw [c2.block _ (by simp) (by omega)]
    have := heap_alloc_new (w.alloc (.cells #[.pointer (some ⟨p, 0, none⟩)] 38)) (.cells #[.int .u8 0] 5)
    rwa [World.size_alloc] at this
  have er : w2.heap[w.heap.size]? = some (.cells #[.pointer (some ⟨p, 0, none⟩)] 38 (0, 0)) := by
    rw [c2.block _ (by simp; omega) (by omega), Below.heap_alloc _ _ _ (by simp)]
    exact heap_alloc_new w _
  have cv := cell_of_row w2 (w.heap.size + 1) 0 _ _ _ ev
  have cvf := frozen_of_row w2 (w.heap.size + 1) 0 _ _ ev
  have cr := cell_of_row w2 w.heap.size 0 _ _ _ er
  have crf := frozen_of_row w2 w.heap.size 0 _ _ er
  simp at cv cr
  clear ev er
  rcases hh with ⟨v, r, u, h1, rfl, hq, h2⟩ | ⟨x, b', h1, rfl, h2⟩
  · obtain ⟨u, rfl⟩ := hQ _ _ _ hq
    have hfin : Ended ok p w o Q (.int .u8 0) (.returned (.int .u8 u)) (w2.setCell ⟨w.heap.size + 1, 0, none⟩ (.int .u8 u)) := Ended.good h1 (c3.setCell (.inr (by simp)) _) (hS _ _ _ _ _ hq (by omega)) (h2.step (fun k hk hlt => Below.heap_setCell w2 ⟨w.heap.size + 1, 0, none⟩ _ k (fun e => by subst e; have := hok _ hk; dsimp only at this; omega)))
    have HF := hid hfin
    clear hfin h1 hq hQ hS hK
    go_wp2
    refine leaves_cons (f := 86) (args := #[.pointer (some ⟨w.heap.size + 1, 0, none⟩), .pointer (some ⟨w.heap.size, 0, none⟩)]) (by simp) (by simp [go_sem]) ?_
    refine (catch_idle_byte _ _ _).mono ?_
    rintro e u' w'' ⟨rfl, rfl, rfl⟩
    have hcu : (w2.setCell ⟨w.heap.size + 1, 0, none⟩ (.int .u8 u)).cell? ⟨w.heap.size + 1, 0, none⟩ = some (.int .u8 u) := World.cell?_setCell_same' _ _ _ (by rw [cv]; rfl)
    simp [Leaves, settle, results, Try.results69, go_sem, hcu]
    exact HF.out
  · have hp3 := h2.put x
    have hw3 : w2.setCell ⟨w.heap.size + 1, 0, none⟩ (.int .u8 0) = w2.setCell ⟨w.heap.size + 1, 0, none⟩ (.int .u8 0) := rfl
    have h3 : PRd (w2.setCell ⟨w.heap.size + 1, 0, none⟩ (.int .u8 0)) ok p b' 0 := h2.step (fun k hk hlt => Below.heap_setCell w2 ⟨w.heap.size + 1, 0, none⟩ _ k (fun e => by subst e; have := hok _ hk; dsimp only at this; omega))
    have hfin : Ended ok p w o Q (.int .u8 0) (.returned (.int .u8 0)) ((w2.setCell ⟨w.heap.size + 1, 0, none⟩ (.int .u8 0)).setCell ⟨p, 1, none⟩ (.int .i64 x)) := Ended.bad h1 ((c3.setCell (.inr (by simp)) _).setCell (.inl rfl) _) (h3.put x)
    obtain ⟨_, _, A', c', hb', _, _, _⟩ := h2
    have cp := cell_of_row w2 p 1 _ _ _ hb'
    have cpf := frozen_of_row w2 p 1 _ _ hb'
    simp at cp
    have HF := hid hfin
    clear hfin h1 hQ hS hK hb' hp3 h3 hw3
    unfold gives
    go_wp2
    refine leaves_cons (f := 86) (args := #[.pointer (some ⟨w.heap.size + 1, 0, none⟩), .pointer (some ⟨w.heap.size, 0, none⟩)]) (by simp) (by simp [go_sem]) ?_
    refine (catch_panic_byte (w.heap.size + 1) w.heap.size p 0 x 0 [] w2 cv cvf cr cp cpf (by omega) (by omega)).mono ?_
    rintro e u' w'' ⟨rfl, rfl, rfl⟩
    have hcu : (w2.setCell ⟨w.heap.size + 1, 0, none⟩ (.int .u8 0)).cell? ⟨w.heap.size + 1, 0, none⟩ = some (.int .u8 0) := World.cell?_setCell_same' _ _ _ (by rw [cv]; rfl)
    simp [Leaves, settle, results, Try.results69, go_sem, hcu]
    exact HF.out
theorem skip_byte {w : World} {ok : Nat → Prop} {p : Nat} {b : List Int} {x : Int} {f : Value} (h : PRd w ok p b x) (hx : ¬ x = 0) :
  Calls Try.prog 69 #[.pointer (some ⟨p, 0, none⟩), f] w fun e w' => e = .returned (.int .u8 0) ∧ Below w.heap.size w w' := by
  have hlt := h.lt
  obtain ⟨_, _, A, c, hb, _, _, _⟩ := h
  have c1 := cell_of_row w p 1 _ _ _ hb
  simp at c1
  clear hb
  have b1 : Below w.heap.size w ((w.alloc (.cells #[.pointer (some ⟨p, 0, none⟩)] 38)).alloc (.cells #[.int .u8 0] 5)) := below_alloc (below_alloc (Below.refl _ _) _) _
  have HB := hid b1
  clear b1
  go_enter_defers Try.func69, Try.ntmps69
  go_wp2
  simp [bodyPostD, Leaves, settle, results, Try.results69, go_sem]
  exact HB.out
theorem nil_byte {w : World} {f : Value} :
  Calls Try.prog 69 #[.pointer none, f] w fun e w' => e = .returned (.int .u8 0) ∧ Below w.heap.size w w' := by
  have b1 : Below w.heap.size w ((w.alloc (.cells #[.pointer none] 38)).alloc (.cells #[.int .u8 0] 5)) := below_alloc (below_alloc (Below.refl _ _) _) _
  have HB := hid b1
  clear b1
  go_enter_defers Try.func69, Try.ntmps69
  go_wp2
  simp [bodyPostD, Leaves, settle, results, Try.results69, go_sem]
  exact HB.out

theorem catch_idle_int (v r : Addr) (w : World) :
    CallsD Try.prog 87 #[.pointer (some v), .pointer (some r)] .returning w fun e u' w' => e = .returned (.tuple #[]) ∧ u' = .returning ∧ w' = w := by
  refine callsD_of_wpS Try.func87 rfl fun c₀ cs hu => ?_
  apply wpS_seq
  apply wpS_region
  simp [wpOpsS, go_sem, recoverD, hu, Try.ntmps87, Exit.thenS]
  refine wpS_of_wp ?_
  have hst : (#[Value.pointer (some v), Value.pointer (some r)] ++ (Array.replicate 15 undef).setIfInBounds 4 Value.nilIface : Array Value) = #[.pointer (some v), .pointer (some r), undef, undef, undef, undef, Value.nilIface, undef, undef, undef, undef, undef, undef, undef, undef, undef, undef] := rfl
  rw [hst]
  go_wp2
  clear hst
  cases c₀
  simp_all [bodyPostS, results, Try.results87]
theorem catch_panic_int (bv br p : Nat) (u : Int) (x y : Int) (older : List PanicEntry) (w : World) (hv : w.cell? ⟨bv, 0, none⟩ = some (.int .i64 u)) (hvz : w.frozen? ⟨bv, 0, none⟩ = false) (hr : w.cell? ⟨br, 0, none⟩ = some (.pointer (some ⟨p, 0, none⟩)))
    (hp : w.cell? ⟨p, 1, none⟩ = some (.int .i64 y)) (hpz : w.frozen? ⟨p, 1, none⟩ = false) (h1 : ¬ br = bv) (h2 : ¬ p = bv) :
    CallsD Try.prog 87 #[.pointer (some ⟨bv, 0, none⟩), .pointer (some ⟨br, 0, none⟩)] (.panicking ({ v := .iface 81 (.int .i64 x), recovered := false } :: older)) w fun e u' w' =>
      e = .returned (.tuple #[]) ∧ u' = .panicking ({ v := .iface 81 (.int .i64 x), recovered := true } :: older) ∧ w' = (w.setCell ⟨bv, 0, none⟩ (.int .i64 0)).setCell ⟨p, 1, none⟩ (.int .i64 x) := by
  have hr2 : (w.setCell ⟨bv, 0, none⟩ (.int .i64 0)).cell? ⟨br, 0, none⟩ = some (.pointer (some ⟨p, 0, none⟩)) := by rw [World.cell?_setCell_other _ _ _ _ (by simp [h1])]; exact hr
  have hp2 : (w.setCell ⟨bv, 0, none⟩ (.int .i64 0)).cell? ⟨p, 1, none⟩ = some (.int .i64 y) := by rw [World.cell?_setCell_other _ _ _ _ (by simp [h2])]; exact hp
  refine callsD_of_wpS Try.func87 rfl fun c₀ cs hu => ?_
  apply wpS_seq
  apply wpS_region
  simp [wpOpsS, go_sem, recoverD, hu, Try.ntmps87, Exit.thenS]
  refine wpS_of_wp ?_
  have hst : (#[Value.pointer (some ⟨bv, 0, none⟩), Value.pointer (some ⟨br, 0, none⟩)] ++ (Array.replicate 15 undef).setIfInBounds 4 (Value.iface 81 (.int .i64 x)) : Array Value) = #[.pointer (some ⟨bv, 0, none⟩), .pointer (some ⟨br, 0, none⟩), undef, undef, undef, undef, Value.iface 81 (.int .i64 x), undef, undef, undef, undef, undef, undef, undef, undef, undef, undef] := rfl
  rw [hst]
  clear hst
  have hta := assert_failure (.int .i64 x)
  go_wp2
  cases c₀
  simp_all [bodyPostS, results, Try.results87]
set_option maxRecDepth 100000 in
theorem guard_int {α : Type} {w : World} {ok : Nat → Prop} {p K : Nat} {b : List Int} {cap : Array Value} {o : Out α} {Q : α → World → Value → Prop} (h : PRd w ok p b 0) (hok : ∀ k, ok k → k < w.heap.size)
    (hQ : ∀ v w1 u, Q v w1 u → ∃ u' : Int, u = (fun (u : Int) => .int .i64 u) u') (hS : ∀ v w1 u j x, Q v w1 u → j < w.heap.size + 2 → Q v (w1.setCell ⟨j, 0, none⟩ x) u)
    (hE : ∀ args w, (callFunc K args).run Try.prog w = .ok (.enter K args) w) (hK : ∀ w1, Below w.heap.size w w1 → w.heap.size + 2 ≤ w1.heap.size → Calls Try.prog K cap w1 (Ends ok p w1 o Q)) :
  Calls Try.prog 72 #[.pointer (some ⟨p, 0, none⟩), .func (.func K) #[] cap] w (Ended ok p w o Q (.int .i64 0)) := by
  have hp := h
  obtain ⟨_, _, A, c, hb, _, _, _⟩ := h
  have c1 := cell_of_row w p 1 _ _ _ hb
  simp at c1
  have hlt := hp.lt
  clear hb
  have hmf := make_func
  go_enter_defers Try.func72, Try.ntmps72
  go_wp2_with fail
  refine (hK _ (below_alloc (below_alloc (Below.refl _ _) _) _) (by simp)).mono ?_
  have b1 : Below w.heap.size w ((w.alloc (.cells #[.pointer (some ⟨p, 0, none⟩)] 38)).alloc (.cells #[.int .i64 0] 3)) := below_alloc (below_alloc (Below.refl _ _) _) _
  intro e w2 he
  obtain ⟨c2, hh⟩ := he.both
  have c3 : Chg (fun k => k = p) w w2 := (Chg.of_below b1 _).then_ c2 (fun _ h => .inl h)
  clear he
  have ev : w2.heap[w.heap.size + 1]? = some (.cells #[.int .i64 0] 3 (0, 0)) := by
    rw [c2.block _ (by simp) (by omega)]
    have := heap_alloc_new (w.alloc (.cells #[.pointer (some ⟨p, 0, none⟩)] 38)) (.cells #[.int .i64 0] 3)
    rwa [World.size_alloc] at this
  have er : w2.heap[w.heap.size]? = some (.cells #[.pointer (some ⟨p, 0, none⟩)] 38 (0, 0)) := by
    rw [c2.block _ (by simp; omega) (by omega), Below.heap_alloc _ _ _ (by simp)]
    exact heap_alloc_new w _
  have cv := cell_of_row w2 (w.heap.size + 1) 0 _ _ _ ev
  have cvf := frozen_of_row w2 (w.heap.size + 1) 0 _ _ ev
  have cr := cell_of_row w2 w.heap.size 0 _ _ _ er
  have crf := frozen_of_row w2 w.heap.size 0 _ _ er
  simp at cv cr
  clear ev er
  rcases hh with ⟨v, r, u, h1, rfl, hq, h2⟩ | ⟨x, b', h1, rfl, h2⟩
  · obtain ⟨u, rfl⟩ := hQ _ _ _ hq
    have hfin : Ended ok p w o Q (.int .i64 0) (.returned (.int .i64 u)) (w2.setCell ⟨w.heap.size + 1, 0, none⟩ (.int .i64 u)) := Ended.good h1 (c3.setCell (.inr (by simp)) _) (hS _ _ _ _ _ hq (by omega)) (h2.step (fun k hk hlt => Below.heap_setCell w2 ⟨w.heap.size + 1, 0, none⟩ _ k (fun e => by subst e; have := hok _ hk; dsimp only at this; omega)))
    have HF := hid hfin
    clear hfin h1 hq hQ hS hK
    go_wp2
    refine leaves_cons (f := 87) (args := #[.pointer (some ⟨w.heap.size + 1, 0, none⟩), .pointer (some ⟨w.heap.size, 0, none⟩)]) (by simp) (by simp [go_sem]) ?_
    refine (catch_idle_int _ _ _).mono ?_
    rintro e u' w'' ⟨rfl, rfl, rfl⟩
    have hcu : (w2.setCell ⟨w.heap.size + 1, 0, none⟩ (.int .i64 u)).cell? ⟨w.heap.size + 1, 0, none⟩ = some (.int .i64 u) := World.cell?_setCell_same' _ _ _ (by rw [cv]; rfl)
    simp [Leaves, settle, results, Try.results72, go_sem, hcu]
    exact HF.out
  · have hp3 := h2.put x
    have hw3 : w2.setCell ⟨w.heap.size + 1, 0, none⟩ (.int .i64 0) = w2.setCell ⟨w.heap.size + 1, 0, none⟩ (.int .i64 0) := rfl
    have h3 : PRd (w2.setCell ⟨w.heap.size + 1, 0, none⟩ (.int .i64 0)) ok p b' 0 := h2.step (fun k hk hlt => Below.heap_setCell w2 ⟨w.heap.size + 1, 0, none⟩ _ k (fun e => by subst e; have := hok _ hk; dsimp only at this; omega))
    have hfin : Ended ok p w o Q (.int .i64 0) (.returned (.int .i64 0)) ((w2.setCell ⟨w.heap.size + 1, 0, none⟩ (.int .i64 0)).setCell ⟨p, 1, none⟩ (.int .i64 x)) := Ended.bad h1 ((c3.setCell (.inr (by simp)) _).setCell (.inl rfl) _) (h3.put x)
    obtain ⟨_, _, A', c', hb', _, _, _⟩ := h2
    have cp := cell_of_row w2 p 1 _ _ _ hb'
    have cpf := frozen_of_row w2 p 1 _ _ hb'
    simp at cp
    have HF := hid hfin
    clear hfin h1 hQ hS hK hb' hp3 h3 hw3
    unfold gives
    go_wp2
    refine leaves_cons (f := 87) (args := #[.pointer (some ⟨w.heap.size + 1, 0, none⟩), .pointer (some ⟨w.heap.size, 0, none⟩)]) (by simp) (by simp [go_sem]) ?_
    refine (catch_panic_int (w.heap.size + 1) w.heap.size p 0 x 0 [] w2 cv cvf cr cp cpf (by omega) (by omega)).mono ?_
    rintro e u' w'' ⟨rfl, rfl, rfl⟩
    have hcu : (w2.setCell ⟨w.heap.size + 1, 0, none⟩ (.int .i64 0)).cell? ⟨w.heap.size + 1, 0, none⟩ = some (.int .i64 0) := World.cell?_setCell_same' _ _ _ (by rw [cv]; rfl)
    simp [Leaves, settle, results, Try.results72, go_sem, hcu]
    exact HF.out
theorem skip_int {w : World} {ok : Nat → Prop} {p : Nat} {b : List Int} {x : Int} {f : Value} (h : PRd w ok p b x) (hx : ¬ x = 0) :
  Calls Try.prog 72 #[.pointer (some ⟨p, 0, none⟩), f] w fun e w' => e = .returned (.int .i64 0) ∧ Below w.heap.size w w' := by
  have hlt := h.lt
  obtain ⟨_, _, A, c, hb, _, _, _⟩ := h
  have c1 := cell_of_row w p 1 _ _ _ hb
  simp at c1
  clear hb
  have b1 : Below w.heap.size w ((w.alloc (.cells #[.pointer (some ⟨p, 0, none⟩)] 38)).alloc (.cells #[.int .i64 0] 3)) := below_alloc (below_alloc (Below.refl _ _) _) _
  have HB := hid b1
  clear b1
  go_enter_defers Try.func72, Try.ntmps72
  go_wp2
  simp [bodyPostD, Leaves, settle, results, Try.results72, go_sem]
  exact HB.out
theorem nil_int {w : World} {f : Value} :
  Calls Try.prog 72 #[.pointer none, f] w fun e w' => e = .returned (.int .i64 0) ∧ Below w.heap.size w w' := by
  have b1 : Below w.heap.size w ((w.alloc (.cells #[.pointer none] 38)).alloc (.cells #[.int .i64 0] 3)) := below_alloc (below_alloc (Below.refl _ _) _) _
  have HB := hid b1
  clear b1
  go_enter_defers Try.func72, Try.ntmps72
  go_wp2
  simp [bodyPostD, Leaves, settle, results, Try.results72, go_sem]
  exact HB.out

theorem catch_idle_u64 (v r : Addr) (w : World) :
    CallsD Try.prog 84 #[.pointer (some v), .pointer (some r)] .returning w fun e u' w' => e = .returned (.tuple #[]) ∧ u' = .returning ∧ w' = w := by
  refine callsD_of_wpS Try.func84 rfl fun c₀ cs hu => ?_
  apply wpS_seq
  apply wpS_region
  simp [wpOpsS, go_sem, recoverD, hu, Try.ntmps84, Exit.thenS]
  refine wpS_of_wp ?_
  have hst : (#[Value.pointer (some v), Value.pointer (some r)] ++ (Array.replicate 15 undef).setIfInBounds 4 Value.nilIface : Array Value) = #[.pointer (some v), .pointer (some r), undef, undef, undef, undef, Value.nilIface, undef, undef, undef, undef, undef, undef, undef, undef, undef, undef] := rfl
  rw [hst]
  go_wp2
  clear hst
  cases c₀
  simp_all [bodyPostS, results, Try.results84]
theorem catch_panic_u64 (bv br p : Nat) (u : Int) (x y : Int) (older : List PanicEntry) (w : World) (hv : w.cell? ⟨bv, 0, none⟩ = some (.int .u64 u)) (hvz : w.frozen? ⟨bv, 0, none⟩ = false) (hr : w.cell? ⟨br, 0, none⟩ = some (.pointer (some ⟨p, 0, none⟩)))
    (hp : w.cell? ⟨p, 1, none⟩ = some (.int .i64 y)) (hpz : w.frozen? ⟨p, 1, none⟩ = false) (h1 : ¬ br = bv) (h2 : ¬ p = bv) :
    CallsD Try.prog 84 #[.pointer (some ⟨bv, 0, none⟩), .pointer (some ⟨br, 0, none⟩)] (.panicking ({ v := .iface 81 (.int .i64 x), recovered := false } :: older)) w fun e u' w' =>
      e = .returned (.tuple #[]) ∧ u' = .panicking ({ v := .iface 81 (.int .i64 x), recovered := true } :: older) ∧ w' = (w.setCell ⟨bv, 0, none⟩ (.int .u64 0)).setCell ⟨p, 1, none⟩ (.int .i64 x) := by
  have hr2 : (w.setCell ⟨bv, 0, none⟩ (.int .u64 0)).cell? ⟨br, 0, none⟩ = some (.pointer (some ⟨p, 0, none⟩)) := by rw [World.cell?_setCell_other _ _ _ _ (by simp [h1])]; exact hr
  have hp2 : (w.setCell ⟨bv, 0, none⟩ (.int .u64 0)).cell? ⟨p, 1, none⟩ = some (.int .i64 y) := by rw [World.cell?_setCell_other _ _ _ _ (by simp [h2])]; exact hp
  refine callsD_of_wpS Try.func84 rfl fun c₀ cs hu => ?_
  apply wpS_seq
  apply wpS_region
  simp [wpOpsS, go_sem, recoverD, hu, Try.ntmps84, Exit.thenS]
  refine wpS_of_wp ?_
  have hst : (#[Value.pointer (some ⟨bv, 0, none⟩), Value.pointer (some ⟨br, 0, none⟩)] ++ (Array.replicate 15 undef).setIfInBounds 4 (Value.iface 81 (.int .i64 x)) : Array Value) = #[.pointer (some ⟨bv, 0, none⟩), .pointer (some ⟨br, 0, none⟩), undef, undef, undef, undef, Value.iface 81 (.int .i64 x), undef, undef, undef, undef, undef, undef, undef, undef, undef, undef] := rfl
  rw [hst]
  clear hst
  have hta := assert_failure (.int .i64 x)
  go_wp2
  cases c₀
  simp_all [bodyPostS, results, Try.results84]
set_option maxRecDepth 100000 in
theorem guard_u64 {α : Type} {w : World} {ok : Nat → Prop} {p K : Nat} {b : List Int} {cap : Array Value} {o : Out α} {Q : α → World → Value → Prop} (h : PRd w ok p b 0) (hok : ∀ k, ok k → k < w.heap.size)
    (hQ : ∀ v w1 u, Q v w1 u → ∃ u' : Int, u = (fun (u : Int) => .int .u64 u) u') (hS : ∀ v w1 u j x, Q v w1 u → j < w.heap.size + 2 → Q v (w1.setCell ⟨j, 0, none⟩ x) u)
    (hE : ∀ args w, (callFunc K args).run Try.prog w = .ok (.enter K args) w) (hK : ∀ w1, Below w.heap.size w w1 → w.heap.size + 2 ≤ w1.heap.size → Calls Try.prog K cap w1 (Ends ok p w1 o Q)) :
  Calls Try.prog 62 #[.pointer (some ⟨p, 0, none⟩), .func (.func K) #[] cap] w (Ended ok p w o Q (.int .u64 0)) := by
  have hp := h
  obtain ⟨_, _, A, c, hb, _, _, _⟩ := h
  have c1 := cell_of_row w p 1 _ _ _ hb
  simp at c1
  have hlt := hp.lt
  clear hb
  have hmf := make_func
  go_enter_defers Try.func62, Try.ntmps62
  go_wp2_with fail
  refine (hK _ (below_alloc (below_alloc (Below.refl _ _) _) _) (by simp)).mono ?_
  have b1 : Below w.heap.size w ((w.alloc (.cells #[.pointer (some ⟨p, 0, none⟩)] 38)).alloc (.cells #[.int .u64 0] 28)) := below_alloc (below_alloc (Below.refl _ _) _) _
  intro e w2 he
  obtain ⟨c2, hh⟩ := he.both
  have c3 : Chg (fun k => k = p) w w2 := (Chg.of_below b1 _).then_ c2 (fun _ h => .inl h)
  clear he
  have ev : w2.heap[w.heap.size + 1]? = some (.cells #[.int .u64 0] 28 (0, 0)) := by
    rw [c2.block _ (by simp) (by omega)]
    have := heap_alloc_new (w.alloc (.cells #[.pointer (some ⟨p, 0, none⟩)] 38)) (.cells #[.int .u64 0] 28)
    rwa [World.size_alloc] at this
  have er : w2.heap[w.heap.size]? = some (.cells #[.pointer (some ⟨p, 0, none⟩)] 38 (0, 0)) := by
    rw [c2.block _ (by simp; omega) (by omega), Below.heap_alloc _ _ _ (by simp)]
    exact heap_alloc_new w _
  have cv := cell_of_row w2 (w.heap.size + 1) 0 _ _ _ ev
  have cvf := frozen_of_row w2 (w.heap.size + 1) 0 _ _ ev
  have cr := cell_of_row w2 w.heap.size 0 _ _ _ er
  have crf := frozen_of_row w2 w.heap.size 0 _ _ er
  simp at cv cr
  clear ev er
  rcases hh with ⟨v, r, u, h1, rfl, hq, h2⟩ | ⟨x, b', h1, rfl, h2⟩
  · obtain ⟨u, rfl⟩ := hQ _ _ _ hq
    have hfin : Ended ok p w o Q (.int .u64 0) (.returned (.int .u64 u)) (w2.setCell ⟨w.heap.size + 1, 0, none⟩ (.int .u64 u)) := Ended.good h1 (c3.setCell (.inr (by simp)) _) (hS _ _ _ _ _ hq (by omega)) (h2.step (fun k hk hlt => Below.heap_setCell w2 ⟨w.heap.size + 1, 0, none⟩ _ k (fun e => by subst e; have := hok _ hk; dsimp only at this; omega)))
    have HF := hid hfin
    clear hfin h1 hq hQ hS hK
    go_wp2
    refine leaves_cons (f := 84) (args := #[.pointer (some ⟨w.heap.size + 1, 0, none⟩), .pointer (some ⟨w.heap.size, 0, none⟩)]) (by simp) (by simp [go_sem]) ?_
    refine (catch_idle_u64 _ _ _).mono ?_
    rintro e u' w'' ⟨rfl, rfl, rfl⟩
    have hcu : (w2.setCell ⟨w.heap.size + 1, 0, none⟩ (.int .u64 u)).cell? ⟨w.heap.size + 1, 0, none⟩ = some (.int .u64 u) := World.cell?_setCell_same' _ _ _ (by rw [cv]; rfl)
    simp [Leaves, settle, results, Try.results62, go_sem, hcu]
    exact HF.out
  · have hp3 := h2.put x
    have hw3 : w2.setCell ⟨w.heap.size + 1, 0, none⟩ (.int .u64 0) = w2.setCell ⟨w.heap.size + 1, 0, none⟩ (.int .u64 0) := rfl
    have h3 : PRd (w2.setCell ⟨w.heap.size + 1, 0, none⟩ (.int .u64 0)) ok p b' 0 := h2.step (fun k hk hlt => Below.heap_setCell w2 ⟨w.heap.size + 1, 0, none⟩ _ k (fun e => by subst e; have := hok _ hk; dsimp only at this; omega))
    have hfin : Ended ok p w o Q (.int .u64 0) (.returned (.int .u64 0)) ((w2.setCell ⟨w.heap.size + 1, 0, none⟩ (.int .u64 0)).setCell ⟨p, 1, none⟩ (.int .i64 x)) := Ended.bad h1 ((c3.setCell (.inr (by simp)) _).setCell (.inl rfl) _) (h3.put x)
    obtain ⟨_, _, A', c', hb', _, _, _⟩ := h2
    have cp := cell_of_row w2 p 1 _ _ _ hb'
    have cpf := frozen_of_row w2 p 1 _ _ hb'
    simp at cp
    have HF := hid hfin
    clear hfin h1 hQ hS hK hb' hp3 h3 hw3
    unfold gives
    go_wp2
    refine leaves_cons (f := 84) (args := #[.pointer (some ⟨w.heap.size + 1, 0, none⟩), .pointer (some ⟨w.heap.size, 0, none⟩)]) (by simp) (by simp [go_sem]) ?_
    refine (catch_panic_u64 (w.heap.size + 1) w.heap.size p 0 x 0 [] w2 cv cvf cr cp cpf (by omega) (by omega)).mono ?_
    rintro e u' w'' ⟨rfl, rfl, rfl⟩
    have hcu : (w2.setCell ⟨w.heap.size + 1, 0, none⟩ (.int .u64 0)).cell? ⟨w.heap.size + 1, 0, none⟩ = some (.int .u64 0) := World.cell?_setCell_same' _ _ _ (by rw [cv]; rfl)
    simp [Leaves, settle, results, Try.results62, go_sem, hcu]
    exact HF.out
theorem skip_u64 {w : World} {ok : Nat → Prop} {p : Nat} {b : List Int} {x : Int} {f : Value} (h : PRd w ok p b x) (hx : ¬ x = 0) :
  Calls Try.prog 62 #[.pointer (some ⟨p, 0, none⟩), f] w fun e w' => e = .returned (.int .u64 0) ∧ Below w.heap.size w w' := by
  have hlt := h.lt
  obtain ⟨_, _, A, c, hb, _, _, _⟩ := h
  have c1 := cell_of_row w p 1 _ _ _ hb
  simp at c1
  clear hb
  have b1 : Below w.heap.size w ((w.alloc (.cells #[.pointer (some ⟨p, 0, none⟩)] 38)).alloc (.cells #[.int .u64 0] 28)) := below_alloc (below_alloc (Below.refl _ _) _) _
  have HB := hid b1
  clear b1
  go_enter_defers Try.func62, Try.ntmps62
  go_wp2
  simp [bodyPostD, Leaves, settle, results, Try.results62, go_sem]
  exact HB.out
theorem nil_u64 {w : World} {f : Value} :
  Calls Try.prog 62 #[.pointer none, f] w fun e w' => e = .returned (.int .u64 0) ∧ Below w.heap.size w w' := by
  have b1 : Below w.heap.size w ((w.alloc (.cells #[.pointer none] 38)).alloc (.cells #[.int .u64 0] 28)) := below_alloc (below_alloc (Below.refl _ _) _) _
  have HB := hid b1
  clear b1
  go_enter_defers Try.func62, Try.ntmps62
  go_wp2
  simp [bodyPostD, Leaves, settle, results, Try.results62, go_sem]
  exact HB.out

theorem catch_idle_raw (v r : Addr) (w : World) :
    CallsD Try.prog 88 #[.pointer (some v), .pointer (some r)] .returning w fun e u' w' => e = .returned (.tuple #[]) ∧ u' = .returning ∧ w' = w := by
  refine callsD_of_wpS Try.func88 rfl fun c₀ cs hu => ?_
  apply wpS_seq
  apply wpS_region
  simp [wpOpsS, go_sem, recoverD, hu, Try.ntmps88, Exit.thenS]
  refine wpS_of_wp ?_
  have hst : (#[Value.pointer (some v), Value.pointer (some r)] ++ (Array.replicate 15 undef).setIfInBounds 4 Value.nilIface : Array Value) = #[.pointer (some v), .pointer (some r), undef, undef, undef, undef, Value.nilIface, undef, undef, undef, undef, undef, undef, undef, undef, undef, undef] := rfl
  rw [hst]
  go_wp2
  clear hst
  cases c₀
  simp_all [bodyPostS, results, Try.results88]
theorem catch_panic_raw (bv br p : Nat) (u : Option Addr × Nat × Nat) (x y : Int) (older : List PanicEntry) (w : World) (hv : w.cell? ⟨bv, 0, none⟩ = some (.slice u.1 u.2.1 u.2.2)) (hvz : w.frozen? ⟨bv, 0, none⟩ = false) (hr : w.cell? ⟨br, 0, none⟩ = some (.pointer (some ⟨p, 0, none⟩)))
    (hp : w.cell? ⟨p, 1, none⟩ = some (.int .i64 y)) (hpz : w.frozen? ⟨p, 1, none⟩ = false) (h1 : ¬ br = bv) (h2 : ¬ p = bv) :
    CallsD Try.prog 88 #[.pointer (some ⟨bv, 0, none⟩), .pointer (some ⟨br, 0, none⟩)] (.panicking ({ v := .iface 81 (.int .i64 x), recovered := false } :: older)) w fun e u' w' =>
      e = .returned (.tuple #[]) ∧ u' = .panicking ({ v := .iface 81 (.int .i64 x), recovered := true } :: older) ∧ w' = (w.setCell ⟨bv, 0, none⟩ (.slice none 0 0)).setCell ⟨p, 1, none⟩ (.int .i64 x) := by
  have hr2 : (w.setCell ⟨bv, 0, none⟩ (.slice none 0 0)).cell? ⟨br, 0, none⟩ = some (.pointer (some ⟨p, 0, none⟩)) := by rw [World.cell?_setCell_other _ _ _ _ (by simp [h1])]; exact hr
  have hp2 : (w.setCell ⟨bv, 0, none⟩ (.slice none 0 0)).cell? ⟨p, 1, none⟩ = some (.int .i64 y) := by rw [World.cell?_setCell_other _ _ _ _ (by simp [h2])]; exact hp
  refine callsD_of_wpS Try.func88 rfl fun c₀ cs hu => ?_
  apply wpS_seq
  apply wpS_region
  simp [wpOpsS, go_sem, recoverD, hu, Try.ntmps88, Exit.thenS]
  refine wpS_of_wp ?_
  have hst : (#[Value.pointer (some ⟨bv, 0, none⟩), Value.pointer (some ⟨br, 0, none⟩)] ++ (Array.replicate 15 undef).setIfInBounds 4 (Value.iface 81 (.int .i64 x)) : Array Value) = #[.pointer (some ⟨bv, 0, none⟩), .pointer (some ⟨br, 0, none⟩), undef, undef, undef, undef, Value.iface 81 (.int .i64 x), undef, undef, undef, undef, undef, undef, undef, undef, undef, undef] := rfl
  rw [hst]
  clear hst
  have hta := assert_failure (.int .i64 x)
  go_wp2
  cases c₀
  simp_all [bodyPostS, results, Try.results88]
set_option maxRecDepth 100000 in
theorem guard_raw {α : Type} {w : World} {ok : Nat → Prop} {p K : Nat} {b : List Int} {cap : Array Value} {o : Out α} {Q : α → World → Value → Prop} (h : PRd w ok p b 0) (hok : ∀ k, ok k → k < w.heap.size)
    (hQ : ∀ v w1 u, Q v w1 u → ∃ u' : Option Addr × Nat × Nat, u = (fun (u : Option Addr × Nat × Nat) => .slice u.1 u.2.1 u.2.2) u') (hS : ∀ v w1 u j x, Q v w1 u → j < w.heap.size + 2 → Q v (w1.setCell ⟨j, 0, none⟩ x) u)
    (hE : ∀ args w, (callFunc K args).run Try.prog w = .ok (.enter K args) w) (hK : ∀ w1, Below w.heap.size w w1 → w.heap.size + 2 ≤ w1.heap.size → Calls Try.prog K cap w1 (Ends ok p w1 o Q)) :
  Calls Try.prog 76 #[.pointer (some ⟨p, 0, none⟩), .func (.func K) #[] cap] w (Ended ok p w o Q (.slice none 0 0)) := by
  have hp := h
  obtain ⟨_, _, A, c, hb, _, _, _⟩ := h
  have c1 := cell_of_row w p 1 _ _ _ hb
  simp at c1
  have hlt := hp.lt
  clear hb
  have hmf := make_func
  go_enter_defers Try.func76, Try.ntmps76
  go_wp2_with fail
  refine (hK _ (below_alloc (below_alloc (Below.refl _ _) _) _) (by simp)).mono ?_
  have b1 : Below w.heap.size w ((w.alloc (.cells #[.pointer (some ⟨p, 0, none⟩)] 38)).alloc (.cells #[.slice none 0 0] 24)) := below_alloc (below_alloc (Below.refl _ _) _) _
  intro e w2 he
  obtain ⟨c2, hh⟩ := he.both
  have c3 : Chg (fun k => k = p) w w2 := (Chg.of_below b1 _).then_ c2 (fun _ h => .inl h)
  clear he
  have ev : w2.heap[w.heap.size + 1]? = some (.cells #[.slice none 0 0] 24 (0, 0)) := by
    rw [c2.block _ (by simp) (by omega)]
    have := heap_alloc_new (w.alloc (.cells #[.pointer (some ⟨p, 0, none⟩)] 38)) (.cells #[.slice none 0 0] 24)
    rwa [World.size_alloc] at this
  have er : w2.heap[w.heap.size]? = some (.cells #[.pointer (some ⟨p, 0, none⟩)] 38 (0, 0)) := by
    rw [c2.block _ (by simp; omega) (by omega), Below.heap_alloc _ _ _ (by simp)]
    exact heap_alloc_new w _
  have cv := cell_of_row w2 (w.heap.size + 1) 0 _ _ _ ev
  have cvf := frozen_of_row w2 (w.heap.size + 1) 0 _ _ ev
  have cr := cell_of_row w2 w.heap.size 0 _ _ _ er
  have crf := frozen_of_row w2 w.heap.size 0 _ _ er
  simp at cv cr
  clear ev er
  rcases hh with ⟨v, r, u, h1, rfl, hq, h2⟩ | ⟨x, b', h1, rfl, h2⟩
  · obtain ⟨u, rfl⟩ := hQ _ _ _ hq
    have hfin : Ended ok p w o Q (.slice none 0 0) (.returned (.slice u.1 u.2.1 u.2.2)) (w2.setCell ⟨w.heap.size + 1, 0, none⟩ (.slice u.1 u.2.1 u.2.2)) := Ended.good h1 (c3.setCell (.inr (by simp)) _) (hS _ _ _ _ _ hq (by omega)) (h2.step (fun k hk hlt => Below.heap_setCell w2 ⟨w.heap.size + 1, 0, none⟩ _ k (fun e => by subst e; have := hok _ hk; dsimp only at this; omega)))
    have HF := hid hfin
    clear hfin h1 hq hQ hS hK
    go_wp2
    refine leaves_cons (f := 88) (args := #[.pointer (some ⟨w.heap.size + 1, 0, none⟩), .pointer (some ⟨w.heap.size, 0, none⟩)]) (by simp) (by simp [go_sem]) ?_
    refine (catch_idle_raw _ _ _).mono ?_
    rintro e u' w'' ⟨rfl, rfl, rfl⟩
    have hcu : (w2.setCell ⟨w.heap.size + 1, 0, none⟩ (.slice u.1 u.2.1 u.2.2)).cell? ⟨w.heap.size + 1, 0, none⟩ = some (.slice u.1 u.2.1 u.2.2) := World.cell?_setCell_same' _ _ _ (by rw [cv]; rfl)
    simp [Leaves, settle, results, Try.results76, go_sem, hcu]
    exact HF.out
  · have hp3 := h2.put x
    have hw3 : w2.setCell ⟨w.heap.size + 1, 0, none⟩ (.slice none 0 0) = w2.setCell ⟨w.heap.size + 1, 0, none⟩ (.slice none 0 0) := rfl
    have h3 : PRd (w2.setCell ⟨w.heap.size + 1, 0, none⟩ (.slice none 0 0)) ok p b' 0 := h2.step (fun k hk hlt => Below.heap_setCell w2 ⟨w.heap.size + 1, 0, none⟩ _ k (fun e => by subst e; have := hok _ hk; dsimp only at this; omega))
    have hfin : Ended ok p w o Q (.slice none 0 0) (.returned (.slice none 0 0)) ((w2.setCell ⟨w.heap.size + 1, 0, none⟩ (.slice none 0 0)).setCell ⟨p, 1, none⟩ (.int .i64 x)) := Ended.bad h1 ((c3.setCell (.inr (by simp)) _).setCell (.inl rfl) _) (h3.put x)
    obtain ⟨_, _, A', c', hb', _, _, _⟩ := h2
    have cp := cell_of_row w2 p 1 _ _ _ hb'
    have cpf := frozen_of_row w2 p 1 _ _ hb'
    simp at cp
    have HF := hid hfin
    clear hfin h1 hQ hS hK hb' hp3 h3 hw3
    unfold gives
    go_wp2
    refine leaves_cons (f := 88) (args := #[.pointer (some ⟨w.heap.size + 1, 0, none⟩), .pointer (some ⟨w.heap.size, 0, none⟩)]) (by simp) (by simp [go_sem]) ?_
    refine (catch_panic_raw (w.heap.size + 1) w.heap.size p (none, 0, 0) x 0 [] w2 cv cvf cr cp cpf (by omega) (by omega)).mono ?_
    rintro e u' w'' ⟨rfl, rfl, rfl⟩
    have hcu : (w2.setCell ⟨w.heap.size + 1, 0, none⟩ (.slice none 0 0)).cell? ⟨w.heap.size + 1, 0, none⟩ = some (.slice none 0 0) := World.cell?_setCell_same' _ _ _ (by rw [cv]; rfl)
    simp [Leaves, settle, results, Try.results76, go_sem, hcu]
    exact HF.out
theorem skip_raw {w : World} {ok : Nat → Prop} {p : Nat} {b : List Int} {x : Int} {f : Value} (h : PRd w ok p b x) (hx : ¬ x = 0) :
  Calls Try.prog 76 #[.pointer (some ⟨p, 0, none⟩), f] w fun e w' => e = .returned (.slice none 0 0) ∧ Below w.heap.size w w' := by
  have hlt := h.lt
  obtain ⟨_, _, A, c, hb, _, _, _⟩ := h
  have c1 := cell_of_row w p 1 _ _ _ hb
  simp at c1
  clear hb
  have b1 : Below w.heap.size w ((w.alloc (.cells #[.pointer (some ⟨p, 0, none⟩)] 38)).alloc (.cells #[.slice none 0 0] 24)) := below_alloc (below_alloc (Below.refl _ _) _) _
  have HB := hid b1
  clear b1
  go_enter_defers Try.func76, Try.ntmps76
  go_wp2
  simp [bodyPostD, Leaves, settle, results, Try.results76, go_sem]
  exact HB.out
theorem nil_raw {w : World} {f : Value} :
  Calls Try.prog 76 #[.pointer none, f] w fun e w' => e = .returned (.slice none 0 0) ∧ Below w.heap.size w w' := by
  have b1 : Below w.heap.size w ((w.alloc (.cells #[.pointer none] 38)).alloc (.cells #[.slice none 0 0] 24)) := below_alloc (below_alloc (Below.refl _ _) _) _
  have HB := hid b1
  clear b1
  go_enter_defers Try.func76, Try.ntmps76
  go_wp2
  simp [bodyPostD, Leaves, settle, results, Try.results76, go_sem]
  exact HB.out

theorem catch_idle_ints (v r : Addr) (w : World) :
    CallsD Try.prog 89 #[.pointer (some v), .pointer (some r)] .returning w fun e u' w' => e = .returned (.tuple #[]) ∧ u' = .returning ∧ w' = w := by
  refine callsD_of_wpS Try.func89 rfl fun c₀ cs hu => ?_
  apply wpS_seq
  apply wpS_region
  simp [wpOpsS, go_sem, recoverD, hu, Try.ntmps89, Exit.thenS]
  refine wpS_of_wp ?_
  have hst : (#[Value.pointer (some v), Value.pointer (some r)] ++ (Array.replicate 15 undef).setIfInBounds 4 Value.nilIface : Array Value) = #[.pointer (some v), .pointer (some r), undef, undef, undef, undef, Value.nilIface, undef, undef, undef, undef, undef, undef, undef, undef, undef, undef] := rfl
  rw [hst]
  go_wp2
  clear hst
  cases c₀
  simp_all [bodyPostS, results, Try.results89]
theorem catch_panic_ints (bv br p : Nat) (u : Option Addr × Nat × Nat) (x y : Int) (older : List PanicEntry) (w : World) (hv : w.cell? ⟨bv, 0, none⟩ = some (.slice u.1 u.2.1 u.2.2)) (hvz : w.frozen? ⟨bv, 0, none⟩ = false) (hr : w.cell? ⟨br, 0, none⟩ = some (.pointer (some ⟨p, 0, none⟩)))
    (hp : w.cell? ⟨p, 1, none⟩ = some (.int .i64 y)) (hpz : w.frozen? ⟨p, 1, none⟩ = false) (h1 : ¬ br = bv) (h2 : ¬ p = bv) :
    CallsD Try.prog 89 #[.pointer (some ⟨bv, 0, none⟩), .pointer (some ⟨br, 0, none⟩)] (.panicking ({ v := .iface 81 (.int .i64 x), recovered := false } :: older)) w fun e u' w' =>
      e = .returned (.tuple #[]) ∧ u' = .panicking ({ v := .iface 81 (.int .i64 x), recovered := true } :: older) ∧ w' = (w.setCell ⟨bv, 0, none⟩ (.slice none 0 0)).setCell ⟨p, 1, none⟩ (.int .i64 x) := by
  have hr2 : (w.setCell ⟨bv, 0, none⟩ (.slice none 0 0)).cell? ⟨br, 0, none⟩ = some (.pointer (some ⟨p, 0, none⟩)) := by rw [World.cell?_setCell_other _ _ _ _ (by simp [h1])]; exact hr
  have hp2 : (w.setCell ⟨bv, 0, none⟩ (.slice none 0 0)).cell? ⟨p, 1, none⟩ = some (.int .i64 y) := by rw [World.cell?_setCell_other _ _ _ _ (by simp [h2])]; exact hp
  refine callsD_of_wpS Try.func89 rfl fun c₀ cs hu => ?_
  apply wpS_seq
  apply wpS_region
  simp [wpOpsS, go_sem, recoverD, hu, Try.ntmps89, Exit.thenS]
  refine wpS_of_wp ?_
  have hst : (#[Value.pointer (some ⟨bv, 0, none⟩), Value.pointer (some ⟨br, 0, none⟩)] ++ (Array.replicate 15 undef).setIfInBounds 4 (Value.iface 81 (.int .i64 x)) : Array Value) = #[.pointer (some ⟨bv, 0, none⟩), .pointer (some ⟨br, 0, none⟩), undef, undef, undef, undef, Value.iface 81 (.int .i64 x), undef, undef, undef, undef, undef, undef, undef, undef, undef, undef] := rfl
  rw [hst]
  clear hst
  have hta := assert_failure (.int .i64 x)
  go_wp2
  cases c₀
  simp_all [bodyPostS, results, Try.results89]
set_option maxRecDepth 100000 in
theorem guard_ints {α : Type} {w : World} {ok : Nat → Prop} {p K : Nat} {b : List Int} {cap : Array Value} {o : Out α} {Q : α → World → Value → Prop} (h : PRd w ok p b 0) (hok : ∀ k, ok k → k < w.heap.size)
    (hQ : ∀ v w1 u, Q v w1 u → ∃ u' : Option Addr × Nat × Nat, u = (fun (u : Option Addr × Nat × Nat) => .slice u.1 u.2.1 u.2.2) u') (hS : ∀ v w1 u j x, Q v w1 u → j < w.heap.size + 2 → Q v (w1.setCell ⟨j, 0, none⟩ x) u)
    (hE : ∀ args w, (callFunc K args).run Try.prog w = .ok (.enter K args) w) (hK : ∀ w1, Below w.heap.size w w1 → w.heap.size + 2 ≤ w1.heap.size → Calls Try.prog K cap w1 (Ends ok p w1 o Q)) :
  Calls Try.prog 80 #[.pointer (some ⟨p, 0, none⟩), .func (.func K) #[] cap] w (Ended ok p w o Q (.slice none 0 0)) := by
  have hp := h
  obtain ⟨_, _, A, c, hb, _, _, _⟩ := h
  have c1 := cell_of_row w p 1 _ _ _ hb
  simp at c1
  have hlt := hp.lt
  clear hb
  have hmf := make_func
  go_enter_defers Try.func80, Try.ntmps80
  go_wp2_with fail
  refine (hK _ (below_alloc (below_alloc (Below.refl _ _) _) _) (by simp)).mono ?_
  have b1 : Below w.heap.size w ((w.alloc (.cells #[.pointer (some ⟨p, 0, none⟩)] 38)).alloc (.cells #[.slice none 0 0] 29)) := below_alloc (below_alloc (Below.refl _ _) _) _
  intro e w2 he
  obtain ⟨c2, hh⟩ := he.both
  have c3 : Chg (fun k => k = p) w w2 := (Chg.of_below b1 _).then_ c2 (fun _ h => .inl h)
  clear he
  have ev : w2.heap[w.heap.size + 1]? = some (.cells #[.slice none 0 0] 29 (0, 0)) := by
    rw [c2.block _ (by simp) (by omega)]
    have := heap_alloc_new (w.alloc (.cells #[.pointer (some ⟨p, 0, none⟩)] 38)) (.cells #[.slice none 0 0] 29)
    rwa [World.size_alloc] at this
  have er : w2.heap[w.heap.size]? = some (.cells #[.pointer (some ⟨p, 0, none⟩)] 38 (0, 0)) := by
    rw [c2.block _ (by simp; omega) (by omega), Below.heap_alloc _ _ _ (by simp)]
    exact heap_alloc_new w _
  have cv := cell_of_row w2 (w.heap.size + 1) 0 _ _ _ ev
  have cvf := frozen_of_row w2 (w.heap.size + 1) 0 _ _ ev
  have cr := cell_of_row w2 w.heap.size 0 _ _ _ er
  have crf := frozen_of_row w2 w.heap.size 0 _ _ er
  simp at cv cr
  clear ev er
  rcases hh with ⟨v, r, u, h1, rfl, hq, h2⟩ | ⟨x, b', h1, rfl, h2⟩
  · obtain ⟨u, rfl⟩ := hQ _ _ _ hq
    have hfin : Ended ok p w o Q (.slice none 0 0) (.returned (.slice u.1 u.2.1 u.2.2)) (w2.setCell ⟨w.heap.size + 1, 0, none⟩ (.slice u.1 u.2.1 u.2.2)) := Ended.good h1 (c3.setCell (.inr (by simp)) _) (hS _ _ _ _ _ hq (by omega)) (h2.step (fun k hk hlt => Below.heap_setCell w2 ⟨w.heap.size + 1, 0, none⟩ _ k (fun e => by subst e; have := hok _ hk; dsimp only at this; omega)))
    have HF := hid hfin
    clear hfin h1 hq hQ hS hK
    go_wp2
    refine leaves_cons (f := 89) (args := #[.pointer (some ⟨w.heap.size + 1, 0, none⟩), .pointer (some ⟨w.heap.size, 0, none⟩)]) (by simp) (by simp [go_sem]) ?_
    refine (catch_idle_ints _ _ _).mono ?_
    rintro e u' w'' ⟨rfl, rfl, rfl⟩
    have hcu : (w2.setCell ⟨w.heap.size + 1, 0, none⟩ (.slice u.1 u.2.1 u.2.2)).cell? ⟨w.heap.size + 1, 0, none⟩ = some (.slice u.1 u.2.1 u.2.2) := World.cell?_setCell_same' _ _ _ (by rw [cv]; rfl)
    simp [Leaves, settle, results, Try.results80, go_sem, hcu]
    exact HF.out
  · have hp3 := h2.put x
    have hw3 : w2.setCell ⟨w.heap.size + 1, 0, none⟩ (.slice none 0 0) = w2.setCell ⟨w.heap.size + 1, 0, none⟩ (.slice none 0 0) := rfl
    have h3 : PRd (w2.setCell ⟨w.heap.size + 1, 0, none⟩ (.slice none 0 0)) ok p b' 0 := h2.step (fun k hk hlt => Below.heap_setCell w2 ⟨w.heap.size + 1, 0, none⟩ _ k (fun e => by subst e; have := hok _ hk; dsimp only at this; omega))
    have hfin : Ended ok p w o Q (.slice none 0 0) (.returned (.slice none 0 0)) ((w2.setCell ⟨w.heap.size + 1, 0, none⟩ (.slice none 0 0)).setCell ⟨p, 1, none⟩ (.int .i64 x)) := Ended.bad h1 ((c3.setCell (.inr (by simp)) _).setCell (.inl rfl) _) (h3.put x)
    obtain ⟨_, _, A', c', hb', _, _, _⟩ := h2
    have cp := cell_of_row w2 p 1 _ _ _ hb'
    have cpf := frozen_of_row w2 p 1 _ _ hb'
    simp at cp
    have HF := hid hfin
    clear hfin h1 hQ hS hK hb' hp3 h3 hw3
    unfold gives
    go_wp2
    refine leaves_cons (f := 89) (args := #[.pointer (some ⟨w.heap.size + 1, 0, none⟩), .pointer (some ⟨w.heap.size, 0, none⟩)]) (by simp) (by simp [go_sem]) ?_
    refine (catch_panic_ints (w.heap.size + 1) w.heap.size p (none, 0, 0) x 0 [] w2 cv cvf cr cp cpf (by omega) (by omega)).mono ?_
    rintro e u' w'' ⟨rfl, rfl, rfl⟩
    have hcu : (w2.setCell ⟨w.heap.size + 1, 0, none⟩ (.slice none 0 0)).cell? ⟨w.heap.size + 1, 0, none⟩ = some (.slice none 0 0) := World.cell?_setCell_same' _ _ _ (by rw [cv]; rfl)
    simp [Leaves, settle, results, Try.results80, go_sem, hcu]
    exact HF.out
theorem skip_ints {w : World} {ok : Nat → Prop} {p : Nat} {b : List Int} {x : Int} {f : Value} (h : PRd w ok p b x) (hx : ¬ x = 0) :
  Calls Try.prog 80 #[.pointer (some ⟨p, 0, none⟩), f] w fun e w' => e = .returned (.slice none 0 0) ∧ Below w.heap.size w w' := by
  have hlt := h.lt
  obtain ⟨_, _, A, c, hb, _, _, _⟩ := h
  have c1 := cell_of_row w p 1 _ _ _ hb
  simp at c1
  clear hb
  have b1 : Below w.heap.size w ((w.alloc (.cells #[.pointer (some ⟨p, 0, none⟩)] 38)).alloc (.cells #[.slice none 0 0] 29)) := below_alloc (below_alloc (Below.refl _ _) _) _
  have HB := hid b1
  clear b1
  go_enter_defers Try.func80, Try.ntmps80
  go_wp2
  simp [bodyPostD, Leaves, settle, results, Try.results80, go_sem]
  exact HB.out
theorem nil_ints {w : World} {f : Value} :
  Calls Try.prog 80 #[.pointer none, f] w fun e w' => e = .returned (.slice none 0 0) ∧ Below w.heap.size w w' := by
  have b1 : Below w.heap.size w ((w.alloc (.cells #[.pointer none] 38)).alloc (.cells #[.slice none 0 0] 29)) := below_alloc (below_alloc (Below.refl _ _) _) _
  have HB := hid b1
  clear b1
  go_enter_defers Try.func80, Try.ntmps80
  go_wp2
  simp [bodyPostD, Leaves, settle, results, Try.results80, go_sem]
  exact HB.out

theorem catch_idle_texts (v r : Addr) (w : World) :
    CallsD Try.prog 90 #[.pointer (some v), .pointer (some r)] .returning w fun e u' w' => e = .returned (.tuple #[]) ∧ u' = .returning ∧ w' = w := by
  refine callsD_of_wpS Try.func90 rfl fun c₀ cs hu => ?_
  apply wpS_seq
  apply wpS_region
  simp [wpOpsS, go_sem, recoverD, hu, Try.ntmps90, Exit.thenS]
  refine wpS_of_wp ?_
  have hst : (#[Value.pointer (some v), Value.pointer (some r)] ++ (Array.replicate 15 undef).setIfInBounds 4 Value.nilIface : Array Value) = #[.pointer (some v), .pointer (some r), undef, undef, undef, undef, Value.nilIface, undef, undef, undef, undef, undef, undef, undef, undef, undef, undef] := rfl
  rw [hst]
  go_wp2
  clear hst
  cases c₀
  simp_all [bodyPostS, results, Try.results90]
theorem catch_panic_texts (bv br p : Nat) (u : Option Addr × Nat × Nat) (x y : Int) (older : List PanicEntry) (w : World) (hv : w.cell? ⟨bv, 0, none⟩ = some (.slice u.1 u.2.1 u.2.2)) (hvz : w.frozen? ⟨bv, 0, none⟩ = false) (hr : w.cell? ⟨br, 0, none⟩ = some (.pointer (some ⟨p, 0, none⟩)))
    (hp : w.cell? ⟨p, 1, none⟩ = some (.int .i64 y)) (hpz : w.frozen? ⟨p, 1, none⟩ = false) (h1 : ¬ br = bv) (h2 : ¬ p = bv) :
    CallsD Try.prog 90 #[.pointer (some ⟨bv, 0, none⟩), .pointer (some ⟨br, 0, none⟩)] (.panicking ({ v := .iface 81 (.int .i64 x), recovered := false } :: older)) w fun e u' w' =>
      e = .returned (.tuple #[]) ∧ u' = .panicking ({ v := .iface 81 (.int .i64 x), recovered := true } :: older) ∧ w' = (w.setCell ⟨bv, 0, none⟩ (.slice none 0 0)).setCell ⟨p, 1, none⟩ (.int .i64 x) := by
  have hr2 : (w.setCell ⟨bv, 0, none⟩ (.slice none 0 0)).cell? ⟨br, 0, none⟩ = some (.pointer (some ⟨p, 0, none⟩)) := by rw [World.cell?_setCell_other _ _ _ _ (by simp [h1])]; exact hr
  have hp2 : (w.setCell ⟨bv, 0, none⟩ (.slice none 0 0)).cell? ⟨p, 1, none⟩ = some (.int .i64 y) := by rw [World.cell?_setCell_other _ _ _ _ (by simp [h2])]; exact hp
  refine callsD_of_wpS Try.func90 rfl fun c₀ cs hu => ?_
  apply wpS_seq
  apply wpS_region
  simp [wpOpsS, go_sem, recoverD, hu, Try.ntmps90, Exit.thenS]
  refine wpS_of_wp ?_
  have hst : (#[Value.pointer (some ⟨bv, 0, none⟩), Value.pointer (some ⟨br, 0, none⟩)] ++ (Array.replicate 15 undef).setIfInBounds 4 (Value.iface 81 (.int .i64 x)) : Array Value) = #[.pointer (some ⟨bv, 0, none⟩), .pointer (some ⟨br, 0, none⟩), undef, undef, undef, undef, Value.iface 81 (.int .i64 x), undef, undef, undef, undef, undef, undef, undef, undef, undef, undef] := rfl
  rw [hst]
  clear hst
  have hta := assert_failure (.int .i64 x)
  go_wp2
  cases c₀
  simp_all [bodyPostS, results, Try.results90]
set_option maxRecDepth 100000 in
theorem guard_texts {α : Type} {w : World} {ok : Nat → Prop} {p K : Nat} {b : List Int} {cap : Array Value} {o : Out α} {Q : α → World → Value → Prop} (h : PRd w ok p b 0) (hok : ∀ k, ok k → k < w.heap.size)
    (hQ : ∀ v w1 u, Q v w1 u → ∃ u' : Option Addr × Nat × Nat, u = (fun (u : Option Addr × Nat × Nat) => .slice u.1 u.2.1 u.2.2) u') (hS : ∀ v w1 u j x, Q v w1 u → j < w.heap.size + 2 → Q v (w1.setCell ⟨j, 0, none⟩ x) u)
    (hE : ∀ args w, (callFunc K args).run Try.prog w = .ok (.enter K args) w) (hK : ∀ w1, Below w.heap.size w w1 → w.heap.size + 2 ≤ w1.heap.size → Calls Try.prog K cap w1 (Ends ok p w1 o Q)) :
  Calls Try.prog 82 #[.pointer (some ⟨p, 0, none⟩), .func (.func K) #[] cap] w (Ended ok p w o Q (.slice none 0 0)) := by
  have hp := h
  obtain ⟨_, _, A, c, hb, _, _, _⟩ := h
  have c1 := cell_of_row w p 1 _ _ _ hb
  simp at c1
  have hlt := hp.lt
  clear hb
  have hmf := make_func
  go_enter_defers Try.func82, Try.ntmps82
  go_wp2_with fail
  refine (hK _ (below_alloc (below_alloc (Below.refl _ _) _) _) (by simp)).mono ?_
  have b1 : Below w.heap.size w ((w.alloc (.cells #[.pointer (some ⟨p, 0, none⟩)] 38)).alloc (.cells #[.slice none 0 0] 30)) := below_alloc (below_alloc (Below.refl _ _) _) _
  intro e w2 he
  obtain ⟨c2, hh⟩ := he.both
  have c3 : Chg (fun k => k = p) w w2 := (Chg.of_below b1 _).then_ c2 (fun _ h => .inl h)
  clear he
  have ev : w2.heap[w.heap.size + 1]? = some (.cells #[.slice none 0 0] 30 (0, 0)) := by
    rw [c2.block _ (by simp) (by omega)]
    have := heap_alloc_new (w.alloc (.cells #[.pointer (some ⟨p, 0, none⟩)] 38)) (.cells #[.slice none 0 0] 30)
    rwa [World.size_alloc] at this
  have er : w2.heap[w.heap.size]? = some (.cells #[.pointer (some ⟨p, 0, none⟩)] 38 (0, 0)) := by
    rw [c2.block _ (by simp; omega) (by omega), Below.heap_alloc _ _ _ (by simp)]
    exact heap_alloc_new w _
  have cv := cell_of_row w2 (w.heap.size + 1) 0 _ _ _ ev
  have cvf := frozen_of_row w2 (w.heap.size + 1) 0 _ _ ev
  have cr := cell_of_row w2 w.heap.size 0 _ _ _ er
  have crf := frozen_of_row w2 w.heap.size 0 _ _ er
  simp at cv cr
  clear ev er
  rcases hh with ⟨v, r, u, h1, rfl, hq, h2⟩ | ⟨x, b', h1, rfl, h2⟩
  · obtain ⟨u, rfl⟩ := hQ _ _ _ hq
    have hfin : Ended ok p w o Q (.slice none 0 0) (.returned (.slice u.1 u.2.1 u.2.2)) (w2.setCell ⟨w.heap.size + 1, 0, none⟩ (.slice u.1 u.2.1 u.2.2)) := Ended.good h1 (c3.setCell (.inr (by simp)) _) (hS _ _ _ _ _ hq (by omega)) (h2.step (fun k hk hlt => Below.heap_setCell w2 ⟨w.heap.size + 1, 0, none⟩ _ k (fun e => by subst e; have := hok _ hk; dsimp only at this; omega)))
    have HF := hid hfin
    clear hfin h1 hq hQ hS hK
    go_wp2
    refine leaves_cons (f := 90) (args := #[.pointer (some ⟨w.heap.size + 1, 0, none⟩), .pointer (some ⟨w.heap.size, 0, none⟩)]) (by simp) (by simp [go_sem]) ?_
    refine (catch_idle_texts _ _ _).mono ?_
    rintro e u' w'' ⟨rfl, rfl, rfl⟩
    have hcu : (w2.setCell ⟨w.heap.size + 1, 0, none⟩ (.slice u.1 u.2.1 u.2.2)).cell? ⟨w.heap.size + 1, 0, none⟩ = some (.slice u.1 u.2.1 u.2.2) := World.cell?_setCell_same' _ _ _ (by rw [cv]; rfl)
    simp [Leaves, settle, results, Try.results82, go_sem, hcu]
    exact HF.out
  · have hp3 := h2.put x
    have hw3 : w2.setCell ⟨w.heap.size + 1, 0, none⟩ (.slice none 0 0) = w2.setCell ⟨w.heap.size + 1, 0, none⟩ (.slice none 0 0) := rfl
    have h3 : PRd (w2.setCell ⟨w.heap.size + 1, 0, none⟩ (.slice none 0 0)) ok p b' 0 := h2.step (fun k hk hlt => Below.heap_setCell w2 ⟨w.heap.size + 1, 0, none⟩ _ k (fun e => by subst e; have := hok _ hk; dsimp only at this; omega))
    have hfin : Ended ok p w o Q (.slice none 0 0) (.returned (.slice none 0 0)) ((w2.setCell ⟨w.heap.size + 1, 0, none⟩ (.slice none 0 0)).setCell ⟨p, 1, none⟩ (.int .i64 x)) := Ended.bad h1 ((c3.setCell (.inr (by simp)) _).setCell (.inl rfl) _) (h3.put x)
    obtain ⟨_, _, A', c', hb', _, _, _⟩ := h2
    have cp := cell_of_row w2 p 1 _ _ _ hb'
    have cpf := frozen_of_row w2 p 1 _ _ hb'
    simp at cp
    have HF := hid hfin
    clear hfin h1 hQ hS hK hb' hp3 h3 hw3
    unfold gives
    go_wp2
    refine leaves_cons (f := 90) (args := #[.pointer (some ⟨w.heap.size + 1, 0, none⟩), .pointer (some ⟨w.heap.size, 0, none⟩)]) (by simp) (by simp [go_sem]) ?_
    refine (catch_panic_texts (w.heap.size + 1) w.heap.size p (none, 0, 0) x 0 [] w2 cv cvf cr cp cpf (by omega) (by omega)).mono ?_
    rintro e u' w'' ⟨rfl, rfl, rfl⟩
    have hcu : (w2.setCell ⟨w.heap.size + 1, 0, none⟩ (.slice none 0 0)).cell? ⟨w.heap.size + 1, 0, none⟩ = some (.slice none 0 0) := World.cell?_setCell_same' _ _ _ (by rw [cv]; rfl)
    simp [Leaves, settle, results, Try.results82, go_sem, hcu]
    exact HF.out
theorem skip_texts {w : World} {ok : Nat → Prop} {p : Nat} {b : List Int} {x : Int} {f : Value} (h : PRd w ok p b x) (hx : ¬ x = 0) :
  Calls Try.prog 82 #[.pointer (some ⟨p, 0, none⟩), f] w fun e w' => e = .returned (.slice none 0 0) ∧ Below w.heap.size w w' := by
  have hlt := h.lt
  obtain ⟨_, _, A, c, hb, _, _, _⟩ := h
  have c1 := cell_of_row w p 1 _ _ _ hb
  simp at c1
  clear hb
  have b1 : Below w.heap.size w ((w.alloc (.cells #[.pointer (some ⟨p, 0, none⟩)] 38)).alloc (.cells #[.slice none 0 0] 30)) := below_alloc (below_alloc (Below.refl _ _) _) _
  have HB := hid b1
  clear b1
  go_enter_defers Try.func82, Try.ntmps82
  go_wp2
  simp [bodyPostD, Leaves, settle, results, Try.results82, go_sem]
  exact HB.out
theorem nil_texts {w : World} {f : Value} :
  Calls Try.prog 82 #[.pointer none, f] w fun e w' => e = .returned (.slice none 0 0) ∧ Below w.heap.size w w' := by
  have b1 : Below w.heap.size w ((w.alloc (.cells #[.pointer none] 38)).alloc (.cells #[.slice none 0 0] 30)) := below_alloc (below_alloc (Below.refl _ _) _) _
  have HB := hid b1
  clear b1
  go_enter_defers Try.func82, Try.ntmps82
  go_wp2
  simp [bodyPostD, Leaves, settle, results, Try.results82, go_sem]
  exact HB.out
end Go.Proofs.Ytiecljhgpbifjaa
