/- PROVED: StoreManifests answers true at every input, and leaves what it was given as it was; errors.errorType as the program's text lays it. -/
import Derived.Maps.RangeWalk
import Derived.Shelf.SlMaps.Clone
import Derived.Test.YticogmpafehomaaGreatDoorCards
import Derived.Test.YticogmpafehomaaGreatDoorTie
import Derived.WalkKit
import Derived.ProofKit
import Derived.OpenShut
import Derived.ShutString
import Derived.ChangeOld
import Derived.Below
import Derived.SizedLaws
import Derived.Deep.DeepHandedRow
import Derived.Deep.DeepWitnessRowRef
import Derived.JoinedCond
import Derived.Test.YticogmpafehomaaGreatDoorGKMA2
import Derived.Test.YticogmpafehomaaGreatDoorGKMA1

set_option linter.unusedVariables false
set_option linter.unusedSimpArgs false
namespace Go.Proofs.YticogmpafehomaaGreatDoor
open Go.RowKit Go.Maps Go.ChangeMaps Go.Proofs.YticogmpafehomaaGreatDoorW.PrintWords Go.Proofs.YticogmpafehomaaGreatDoorW.PrintMore

theorem EMap.grow {w w1 : World} {okr okv : Nat → Prop} {mb n : Nat} {E F : Ent} {f g : ByteArray → Option Value} (hr : ∀ k, HoldsB w okr (f k) (Proofs.YticogmpafehomaaGreatDoor.look E k)) (hM : MapV Tryz.prog 9 w1 mb n g) (hg : w.grownBy w1 (some mb)) (hne : ∀ j, okr j → j ≠ mb) (hF : SortedE F)
    (h : ∀ k, HoldsB w1 okv (g k) (Proofs.YticogmpafehomaaGreatDoor.look F k)) : EMap w1 okv mb F := by
  have ht := mapV_tight hM Tryz.underlying9 (l := keysE F) hF (keys_iff h)
  rw [show (keysE F).length = F.length from by unfold keysE; simp] at ht
  exact ⟨g, ht, h⟩
set_option maxRecDepth 100000 in
theorem put_clos {w : World} {okr okv : Nat → Prop} {mb ob kc : Nat} {E : Ent} {A : Option Addr} {c : Nat} {k : ByteArray} {v : List Int} (h : EMap w okr mb E) (hs : SortedE E) (hE : E.length ≤ 65536) (hk : k.size ≤ 64)
    (hne : ∀ j, okr j → j ≠ mb) (hnv : ∀ j, okv j → j ≠ mb) (hF : RB w okv A v) (hc : v.length ≤ c) (ho : w.cell? ⟨ob, 0, none⟩ = some (.slice A v.length c)) (hkc : w.cell? ⟨kc, 0, none⟩ = some (.string k)) :
    Calls Tryz.prog 61 #[.map (some mb), .pointer (some ⟨ob, 0, none⟩), .pointer (some ⟨kc, 0, none⟩)] w fun e w' => e = .returned (.tuple #[]) ∧ EMap w' (fun j => okr j ∨ okv j) mb (putE k v E) ∧ w.grownBy w' (some mb) := by
  obtain ⟨f, hM, hr⟩ := h
  have hlt := hM.lt
  go_enter Tryz.func61, Tryz.ntmps61
  go_wp2_with (at_mapUpdate; refine wpList_put _ rfl _ _ _ 97 25 rfl Tryz.underlying9 Tryz.underlying97 rfl hM (by unfold maxLen; omega) k (.slice A v.length c) (by unfold maxLen; omega) rfl rfl ?_)
  intro w1 hM1 hg1
  have hfin : EMap w1 (fun j => okr j ∨ okv j) mb (putE k v E) := by
    refine EMap.grow (n := E.length + 1) hr hM1 hg1 hne (hs.put k v) (fun x => ?_)
    rw [look_putE]
    by_cases e : x = k
    · rw [if_pos e, if_pos e]
      exact ⟨A, c, rfl, hc, Kd.F_mono (Kd.F_step hF (fun j hj hlt => hg1.block j hlt (by intro e; injection e with e; exact hnv j hj e))) (fun j hj => .inr hj)⟩
    · rw [if_neg e, if_neg e]
      exact ((hr x).step (fun j hj hlt => hg1.block j hlt (by intro e; injection e with e; exact hne j hj e))).mono (fun j hj => .inl hj)
  have HF := hid (And.intro hfin hg1)
  clear hfin hg1 hM1
  go_wp2
  go_end0
  exact ⟨rfl, HF.out⟩
set_option maxRecDepth 100000 in
set_option maxHeartbeats 2000000 in
theorem mclone_any {w : World} {okr : Nat → Prop} {mb : Nat} {E : Ent} (h : EMap w okr mb E) :
    Calls Tryz.prog 106 #[.map (some mb)] w fun e w' => e = .returned (.map (some w.heap.size)) ∧ EMap w' okr w.heap.size E ∧ Below w.heap.size w w' := by
  obtain ⟨f, ⟨D, ⟨es, clock, hb, F, hn, hD⟩, h1, h2⟩, hr⟩ := h
  have hq := fun w => run_eql_map_nil_sl (P := Tryz.prog) w 97 _ _ (some mb) Tryz.underlying97
  have hB : Below w.heap.size w (w.alloc (.map es clock)) := below_alloc (Below.refl _ _) _
  have hfin : EMap (w.alloc (.map es clock)) okr w.heap.size E :=
    ⟨f, ⟨D, ⟨es, clock, (MapKept.heap_alloc w _).1, F, hn, hD⟩, h1, h2⟩, fun k => (hr k).step (fun j _ hj => Below.heap_alloc _ _ _ hj)⟩
  have HF := hid (And.intro hfin hB)
  clear hfin hB hr h1 h2 F hn hD
  go_enter Tryz.func106, Tryz.ntmps106
  go_wp2
  rw [run_callFunc_extern Tryz.func147 (by kernel_rfl) (by kernel_rfl) (by kernel_rfl) (e := Extern.MapsClone.clone) (by kernel_rfl), run_maps_clone_sl w 97 hb]
  simp only [Result.andThen]
  rw [Oper.upon_value]
  go_wp2
  rw [run_typeAssert_map_sl _ 97 20 _ _ _ Tryz.underlying97]
  simp only [Result.andThen]
  rw [Oper.upon_value]
  go_wp2
  go_ret
  exact ⟨rfl, HF.out⟩
theorem kb_same (a x : ByteArray) : (kb a).sameKey (kb x) = decide (a = x) := by
  by_cases e : a = x
  · subst e
    rw [WideAt.sameKey_self (isKey_kb a)]
    simp
  · rw [decide_eq_false e]
    cases h : (kb a).sameKey (kb x) with
    | false => rfl
    | true => exact absurd (kb_inj (WideAt.sameKey_eq h)) e
theorem blocksE_strike {left : Lit → Bool} {x : ByteArray} {bs : List Int} (hx : left (kb x) = true) : ∀ {E : Ent}, SortedE E → look E x = some bs →
    blocksE (E.filter fun y => left (kb y.1)) = needK x bs.length + blocksE (E.filter fun y => left (kb y.1) && !(kb y.1).sameKey (kb x))
  | [], _, h => by cases h
  | (a, u) :: l, hs, h => by
    have h2 := sortedE_cons.1 hs
    simp only [look] at h
    by_cases e : a = x
    · rw [if_pos e] at h
      injection h with h
      subst h e
      rw [List.filter_cons, if_pos (by simpa using hx), List.filter_cons, if_neg (by rw [kb_same]; simp), blocksE_cons]
      congr 2
      refine List.filter_congr (fun y hy => ?_)
      have hne : y.1 ≠ a := fun e => BL.lt_irrefl _ (by have := h2.1 y hy; dsimp only at this; rw [e] at this; exact this)
      rw [kb_same, decide_eq_false hne]
      simp
    · rw [if_neg e] at h
      have ih := blocksE_strike hx h2.2 h
      rw [List.filter_cons, List.filter_cons]
      have ek : (left (kb a) && !(kb a).sameKey (kb x)) = left (kb a) := by rw [kb_same, decide_eq_false e]; simp
      dsimp only
      rw [ek]
      by_cases hl : left (kb a) = true
      · rw [if_pos hl, if_pos hl, blocksE_cons, blocksE_cons, ih]
        omega
      · rw [if_neg hl, if_neg hl]
        exact ih
theorem blocksE_le : ∀ E : Ent, blocksE E ≤ 65536 * E.length
  | [] => by simp [blocksE]
  | x :: l => by
    have h1 := blocksE_le l
    have h2 := needK_nn x.1 x.2.length
    rw [blocksE_cons, List.length_cons]
    push_cast
    omega
theorem blocksE_filter (p : ByteArray × List Int → Bool) : ∀ E : Ent, blocksE (E.filter p) ≤ blocksE E
  | [] => Int.le_refl _
  | x :: l => by
    have h1 := blocksE_filter p l
    have h2 := needK_nn x.1 x.2.length
    rw [List.filter_cons]
    split
    · rw [blocksE_cons, blocksE_cons]; omega
    · rw [blocksE_cons]; omega
set_option maxRecDepth 100000 in
set_option maxHeartbeats 4000000 in
theorem blocks_map {w : World} {okr : Nat → Prop} {mb : Nat} {E : Ent} (h : EMap w okr mb E) (hs : SortedE E) (hE : E.length ≤ 65536) (hb : ∀ x ∈ E, x.2.length ≤ 131072) :
    Calls Tryz.prog 78 #[.map (some mb)] w fun e w' => e = .returned (.int .i64 (blocksE E)) ∧ Below w.heap.size w w' := by
  obtain ⟨f, ⟨D, hown, h1, h2⟩, hr⟩ := h
  have hle := blocksE_le E
  have hnn := blocksE_nn E
  go_enter Tryz.func78, Tryz.ntmps78
  go_wp2_with (at_range; refine wpList_range_own _ rfl _ 97 rfl 9 25 (string_keyed Tryz.underlying9) Tryz.underlying97 heldV mb E.length D rfl hown ?_; intro w0 hrg0 hg0 hs0)
  go_frame
  have hall : E.filter (fun y => Maps.has D (kb y.1)) = E := by
    rw [List.filter_eq_self]
    intro y hy
    rw [h1, (hr y.1).isSome, mem_look hs (k := y.1) (v := y.2) hy]
    rfl
  go_loopw [3] (fun v wr => ∃ left cnt, wr.ranges Tryz.prog 9 heldV mb w.heap.size E.length D left cnt ∧ v = .int .i64 (blocksE E - blocksE (E.filter fun y => left (kb y.1))) ∧ Below w.heap.size w wr) (fun _ wr => wr.rangeLeft mb w.heap.size)
  case atStart => exact ⟨_, _, hrg0, by rw [hall]; simp, ⟨hg0.os, hg0.tape, hg0.output, hg0.size, fun k hk => hg0.block k hk (by simp)⟩⟩
  case round =>
    clear hrg0 hg0 hs0 hall hown
    obtain ⟨W, hW⟩ : ∃ W : World, W = wr := ⟨_, rfl⟩
    subst hW
    obtain ⟨left, cnt, hrg, rfl, hB⟩ := hrel
    have hsub := blocksE_filter (fun y => left (kb y.1)) E
    have hsn := blocksE_nn (E.filter fun y => left (kb y.1))
    obtain ⟨B1, hB1⟩ : ∃ B1, blocksE (E.filter fun y => left (kb y.1)) = B1 := ⟨_, rfl⟩
    rw [hB1] at hsub hsn ⊢
    have HH := hid (And.intro hs (And.intro hb (And.intro hr (And.intro h1 (And.intro h2 (And.intro hB1 hB))))))
    clear hs hb hr h1 h2 hB1 hB
    go_wp2_with (at_next; refine wpList_next_ranges _ rfl _ rfl 9 (string_keyed Tryz.underlying9) heldV Value.string id ?invK ?invV mb w.heap.size E.length D left cnt rfl hrg ?done ?more)
    case invK =>
      intro key kl hk
      obtain ⟨x, e, _⟩ := Maps.keyOf_str Tryz.underlying9 hk
      exact ⟨tx x, e⟩
    case invV => exact fun v y _ => ⟨v, rfl⟩
    case done =>
      intro h0 hl0
      have hz : B1 = 0 := by
        rw [← HH.out.2.2.2.2.2.1, show (E.filter fun y => left (kb y.1)) = [] from by rw [List.filter_eq_nil_iff]; intro y _; rw [hl0]; simp]
        rfl
      subst hz
      rw [Int.sub_zero]
      go_wp2
      go_ret
      exact ⟨rfl, HH.out.2.2.2.2.2.2⟩
    case more =>
      intro x c kl ya yb w1 cnt1 hkey hlk hv hat hrg1 hlt hg1 hs1 hen
      obtain ⟨hs, hb, hr, h1, h2, hB1, hB⟩ := HH.out
      have hkl : kl = kb x := by
        obtain ⟨x', q1, q2, q3⟩ := Maps.keyOf_str Tryz.underlying9 hkey
        have q4 : x = tx x' := by injection q1
        rw [q2, q4]
        unfold kb
        rw [bl_tx]
      subst hkl
      have hya : ya = .held c := by
        unfold heldV at hv
        simp at hv
        exact hv.1.symm
      subst hya
      have hfx : f x = some c := by
        cases hf : f x with
        | none =>
          have := Maps.atKey_of_not_has (D := D) (k := kb x) (by rw [h1, hf]; rfl) (.lit (.bool true))
          rw [hat] at this
          cases this
        | some u =>
          have := h2 x u hf (.lit (.bool true))
          rw [hat] at this
          injection this with this
          rw [this]
      have hrx := hr x
      cases hl : Proofs.YticogmpafehomaaGreatDoor.look E x with
      | none =>
        rw [hl, hfx] at hrx
        cases hrx
      | some bs =>
        rw [hl, hfx] at hrx
        obtain ⟨A, cc, e1, e2, e3⟩ := hrx
        injection e1 with e1
        subst e1
        have hst := blocksE_strike hlk hs hl
        rw [hB1] at hst
        have hbl := hb _ (look_mem hl)
        have hnk := needK_nn x bs.length
        have hcl := needS_any (w := w1) x (bs.length : Int) (by dsimp only at hbl; omega)
        have hfl := blocksE_nn (E.filter fun y => left (kb y.1) && !(kb y.1).sameKey (kb x))
        have hwr : IntKind.i64.wrap (blocksE E - B1 + needK x bs.length) = blocksE E - B1 + needK x bs.length := by rw [IntKind.wrap_i64]; omega
        have hB2 : Below w.heap.size w w1 := hB.grown hg1 hB.size (fun k hk => by cases hk; exact Nat.le_refl _)
        have hve : blocksE E - B1 + needK x bs.length = blocksE E - blocksE (E.filter fun y => left (kb y.1) && !(kb y.1).sameKey (kb x)) := by omega
        have HF := hid (And.intro hve (And.intro hrg1 hB2))
        clear hst hve hrg1 hB2 hs hb hr h1 h2 hB1 hB e3 hat hfx hl hv hkey hlk hbl hnk hfl hsub hsn hnn hle HH hg1 hs1
        generalize needK x bs.length = nk at hcl hwr HF ⊢
        generalize blocksE E - B1 = bq at hwr HF ⊢
        go_wp2_with (go_at_call 15; refine hcl.mono ?_; rintro e w' ⟨rfl, rfl⟩)
        go_roundw
        case rel => exact ⟨_, cnt1, HF.out.2.1, by rw [HF.out.1], HF.out.2.2⟩
        case measure => rw [HF.out.2.1.left_eq, hrg.left_eq]; exact hlt
end Go.Proofs.YticogmpafehomaaGreatDoor

set_option linter.unusedVariables false
set_option linter.unusedSimpArgs false
namespace Go.Proofs.YticogmpafehomaaGreatDoor
open Go.RowKit Go.Proofs.YticogmpafehomaaGreatDoorW.PrintWords Go.Proofs.YticogmpafehomaaGreatDoorW.PrintMore

theorem writeD_ws (D : DM) (i : Int) (xs : List Int) : (D.writeD i xs).ws.length ≤ D.ws.length + 1 := by
  unfold DM.writeD
  split
  · omega
  · split
    · omega
    · split <;> simp
theorem puts_ws (b0 : Int) : ∀ (l : List (Int × List Int)) (D : DM), (puts b0 D l).1.ws.length ≤ D.ws.length + l.length
  | [], D => by simp [puts]
  | x :: l, D => by
    have hw := writeD_ws D (b0 + x.1) x.2
    simp only [puts, List.length_cons]
    split
    · have := puts_ws b0 l (D.writeD (b0 + x.1) x.2); omega
    · dsimp only; omega
theorem sealW_ws (D : DM) (base : Int) (r : SR) : (D.sealW base r).1.ws.length ≤ D.ws.length + 65535 := by
  unfold DM.sealW
  by_cases h1 : sealE r = 0
  · rw [if_neg (by simp [h1])]
    split
    · dsimp only; omega
    · have h2 := puts_ws (base + r.at_) (order r) D
      have h3 : bodies r ≤ 65534 := by
        have : r.bytes.length ≤ 131072 := by
          unfold sealE at h1
          split at h1
          · cases h1
          · split at h1
            · cases h1
            · omega
        unfold bodies; omega
      have h4 := order_len r
      omega
  · rw [if_pos h1]; dsimp only; omega
/-- A log that may be. -/
structure HM.fine (H : HM) : Prop where
  n0 : 0 ≤ H.n
  nt : H.n ≤ H.tail
  ts : H.tail ≤ H.size
  s : H.size ≤ 4096
  b : 0 ≤ H.base ∧ H.base ≤ 4096
  g : 0 ≤ H.gen ∧ H.gen < 18446744073709551616
theorem hputC_fits {H : HM} {kind : Int} {n : Nat} (h : hputC H kind n = 0) : 0 < need n ∧ need n ≤ H.size - H.tail := by
  unfold hputC at h
  split at h
  · cases h
  · split at h
    · cases h
    · split at h
      · cases h
      · rename_i hf
        have : fitsB H n = true := by simpa using hf
        unfold fitsB at this
        exact of_decide_eq_true this
theorem hputF_fine {D : DM} {H : HM} (h : H.fine) (kind : Int) (bs : List Int) : (hputF D H kind bs).2.2.fine ∧ (hputF D H kind bs).2.2.base = H.base ∧ (hputF D H kind bs).2.2.size = H.size ∧ (hputF D H kind bs).2.2.gen = H.gen ∧
    ((hputF D H kind bs).1 = 0 → (hputF D H kind bs).2.2.n = H.n + 1) ∧ H.n ≤ (hputF D H kind bs).2.2.n ∧ ((hputF D H kind bs).1 ≠ 0 → (hputF D H kind bs).2.2 = H) := by
  unfold hputF
  by_cases he : hputC H kind bs.length = 0
  · rw [if_pos he]
    obtain ⟨h1, h2⟩ := hputC_fits he
    unfold hputH
    dsimp only
    by_cases hE : (D.sealW H.base (hputR H kind bs)).2 = 0
    · rw [if_pos hE]
      exact ⟨⟨by have := h.n0; dsimp only; omega, by have := h.nt; dsimp only; omega, by have := h.ts; dsimp only; omega, h.s, h.b, h.g⟩, rfl, rfl, rfl, fun _ => rfl, by dsimp only; omega, fun h => absurd hE h⟩
    · rw [if_neg hE]
      exact ⟨h, rfl, rfl, rfl, fun h => absurd h hE, Int.le_refl _, fun _ => rfl⟩
  · rw [if_neg he]
    exact ⟨h, rfl, rfl, rfl, fun h => absurd h he, Int.le_refl _, fun _ => rfl⟩
theorem hputF_ws (D : DM) (H : HM) (kind : Int) (bs : List Int) : (hputF D H kind bs).2.1.ws.length ≤ D.ws.length + 65535 := by
  unfold hputF
  split
  · exact sealW_ws _ _ _
  · dsimp only; omega
/-- Append. -/
theorem hput_any {w : World} {okd okr : Nat → Prop} {hb p : Nat} {D : DM} {H : HM} {A : Option Addr} {c : Nat} {bs : List Int} (h : PDisk w okd p D) (hh : HBlk w hb p H) (hf : H.fine) (hF : RB w okr A bs) (hne : apart okr okd) (hnh : ¬ okd hb) (hl : bs.length ≤ c) (hB : Bytes bs)
    (hbig : bs.length ≤ 140737488355328) (hm : (D.ws.length + 65537) * 32 ≤ 140737488355328) (kind : Int) :
    Calls Tryz.prog 105 #[.pointer (some ⟨hb, 0, none⟩), .int .i64 kind, .slice A bs.length c] w fun e w' => e = .returned (.int .i64 (hputF D H kind bs).1) ∧ PDisk w' (orNew okd w) p (hputF D H kind bs).2.1 ∧ HBlk w' hb p (hputF D H kind bs).2.2 ∧ Chg (fun k => okd k ∨ k = hb) w w' := by
  have h1 : 0 ≤ H.tail ∧ H.tail ≤ H.size ∧ H.size ≤ 4096 := ⟨Int.le_trans hf.n0 hf.nt, hf.ts, hf.s⟩
  unfold hputF
  by_cases he : hputC H kind bs.length = 0
  · rw [if_pos he]
    exact hput_ok h hh hF hne hnh hl hB h1 hf.g hf.b ⟨hf.n0, by have := hf.nt; omega⟩ hm kind he
  · rw [if_neg he]
    refine (hput_err hh h1 kind A bs.length c hbig he).mono ?_
    rintro e w' ⟨rfl, hb'⟩
    exact ⟨rfl, (h.step (fun k _ hk => hb'.block k hk)).mono (fun _ hk => .inl hk), hh.step (hb'.block _ hh.lt), Chg.of_below hb' _⟩
theorem putsF_snoc : ∀ (l : Ent) (D : DM) (H : HM) (x : ByteArray × List Int), putsF D H (l ++ [x]) = if (putsF D H l).1 = 0 then hputF (putsF D H l).2.1 (putsF D H l).2.2 1 (recB x.1 x.2) else putsF D H l
  | [], D, H, x => by
    simp only [List.nil_append, putsF, if_true]
    split
    · rename_i h
      rw [← h]
    · rfl
  | y :: l, D, H, x => by
    rw [List.cons_append]
    simp only [putsF]
    split
    · exact putsF_snoc l _ _ x
    · rfl
theorem putsF_stop : ∀ (l m : Ent) (D : DM) (H : HM), (putsF D H l).1 ≠ 0 → putsF D H (l ++ m) = putsF D H l
  | [], m, D, H, h => absurd rfl h
  | y :: l, m, D, H, h => by
    rw [List.cons_append]
    simp only [putsF] at h ⊢
    split
    · rename_i he
      rw [if_pos he] at h
      exact putsF_stop l m _ _ h
    · rfl
theorem putsF_fine : ∀ (l : Ent) (D : DM) (H : HM), H.fine → (putsF D H l).2.2.fine ∧ (putsF D H l).2.2.base = H.base ∧ (putsF D H l).2.2.size = H.size ∧ (putsF D H l).2.2.gen = H.gen ∧ ((putsF D H l).1 = 0 → (putsF D H l).2.2.n = H.n + l.length) ∧ H.n ≤ (putsF D H l).2.2.n
  | [], D, H, h => ⟨h, rfl, rfl, rfl, fun _ => by simp [putsF], Int.le_refl _⟩
  | y :: l, D, H, h => by
    obtain ⟨h1, h2, h3, h4, h5, h6, _⟩ := hputF_fine (D := D) h 1 (recB y.1 y.2)
    simp only [putsF]
    split
    · rename_i he
      obtain ⟨k1, k2, k3, k4, k5, k6⟩ := putsF_fine l (hputF D H 1 (recB y.1 y.2)).2.1 (hputF D H 1 (recB y.1 y.2)).2.2 h1
      exact ⟨k1, k2.trans h2, k3.trans h3, k4.trans h4, fun hh => by rw [k5 hh, h5 he, List.length_cons]; push_cast; omega, Int.le_trans h6 k6⟩
    · rename_i he
      exact ⟨h1, h2, h3, h4, fun hh => absurd hh he, h6⟩
theorem putsF_ws : ∀ (l : Ent) (D : DM) (H : HM), (putsF D H l).2.1.ws.length ≤ D.ws.length + 65535 * l.length
  | [], D, H => by simp [putsF]
  | y :: l, D, H => by
    have h1 := hputF_ws D H 1 (recB y.1 y.2)
    simp only [putsF, List.length_cons]
    split
    · have h2 := putsF_ws l (hputF D H 1 (recB y.1 y.2)).2.1 (hputF D H 1 (recB y.1 y.2)).2.2
      rw [Nat.mul_succ]
      generalize 65535 * l.length = z at h2 ⊢
      generalize (hputF D H 1 (recB y.1 y.2)).2.1.ws.length = a at h1 h2
      generalize (putsF (hputF D H 1 (recB y.1 y.2)).2.1 (hputF D H 1 (recB y.1 y.2)).2.2 l).2.1.ws.length = b at h2 ⊢
      omega
    · rw [Nat.mul_succ]
      generalize 65535 * l.length = z
      generalize (hputF D H 1 (recB y.1 y.2)).2.1.ws.length = a at h1 ⊢
      refine Nat.le_trans h1 (Nat.add_le_add_left (Nat.le_add_left _ _) _)
theorem log0_fine {D : DM} (h : D.wf) {m : MM} (hm : m.ok) : (log0 D m).fine := by
  have h2 := h.hi
  have h3 := hm.2.2.1
  have h4 := hm.2.2.2.1
  unfold mostN at h4
  have hs : sizeM D ≤ 4096 := by unfold sizeM; omega
  have hb : (baseM D m.K : Int) ≤ 4096 := by
    unfold baseM sizeM
    rcases (by have := hm.2.2.2.2; omega : m.K = 0 ∨ m.K = 1) with e | e <;> rw [e] <;> simp <;> omega
  exact ⟨by simp [log0], by simp [log0], by simp [log0], by simp only [log0]; omega, by simp only [log0]; omega, by simp only [log0]; omega⟩
theorem SM.wf.fine {S : SM} (h : S.wf) : S.H.fine := by
  have h2 := h.d.hi
  have h3 := h.m.2.2.1
  have h4 := h.m.2.2.2.1
  unfold mostN at h4
  have h5 := log0_fine h.d h.m
  exact ⟨h.n0, h.nt, h.ts, by rw [h.size]; exact h5.s, by rw [h.base]; exact h5.b, by rw [h.gen]; omega⟩
end Go.Proofs.YticogmpafehomaaGreatDoor

set_option linter.unusedVariables false
set_option linter.unusedSimpArgs false
namespace Go.Proofs.YticogmpafehomaaGreatDoor
open Go.RowKit Go.Maps Go.Proofs.YticogmpafehomaaGreatDoorW.PrintWords Go.Proofs.YticogmpafehomaaGreatDoorW.PrintMore

/-- A disk and a store on it, behind a call: their blocks are old ones of theirs, or new. -/
def SysOut (w w' : World) (okd okS : Nat → Prop) (p pd : Nat) (S : SM) : Prop :=
  ∃ okd' okS', PDisk w' okd' pd S.D ∧ PSto w' okS' p pd S ∧ apart okd' okS' ∧ (∀ k, okd' k → orNew okd w k) ∧ (∀ k, okS' k → orNew okS w k)
theorem wrap_succ {j n : Nat} (h : j + 1 ≤ n) (hn : n ≤ 65536) : wrap64 ((j : Int) + 1) = ((j + 1 : Nat) : Int) := by
  unfold wrap64
  omega
theorem meas_succ {j n : Nat} (h : j + 1 ≤ n) (hn : n ≤ 65536) : n - (intOf (.int .i64 (wrap64 ((j : Int) + 1)))).toNat < n - (intOf (.int .i64 (j : Int))).toNat := by
  rw [wrap_succ h hn]
  simp only [intOf]
  omega
theorem PSb.withD {w : World} {ok okr : Nat → Prop} {p pd hb mb : Nat} {dv : Value} {S : SM} (h : PSb w ok okr p pd hb mb dv S) (D : DM) : PSb w ok okr p pd hb mb dv { S with D := D } := ⟨h.okp, h.okh, h.okm, h.rows, h.blk, h.log, h.ent, h.dead, h.okd⟩
theorem compactF_done {S : SM} {F : Ent} {D' D2 : DM} {H' : HM} {E2 : Int} (h1 : ¬ (sizeM S.D : Int) < blocksE F) (h2 : ¬ S.D.gone = true) (h3 : ¬ (S.m.N = mostN ∨ stG S.D = mostN)) (hq : putsF S.D (log0 S.D S.next) F = (0, D', H'))
    (e1 : (flipF D' S.next).1 = E2) (e2 : (flipF D' S.next).2 = D2) : compactF S F = if E2 = 0 then (0, ⟨D2, S.next, H', F, S.dead⟩) else (E2, { S with D := D2, dead := true }) := by
  unfold compactF
  rw [if_neg h1, if_neg h2, if_neg h3, hq]
  dsimp only
  rw [if_pos rfl, e1, e2]
theorem setStore {w : World} {p pd hb mb : Nat} {m : MM} {dv : Value} (h : SBlk w p pd hb mb m dv) (m' : MM) (hb' mb' : Nat) :
    SBlk (((((w.setCell ⟨p, 1, none⟩ (.int .u64 m'.N)).setCell ⟨p, 2, none⟩ (.int .u64 m'.G)).setCell ⟨p, 3, none⟩ (.int .i64 m'.K)).setCell ⟨p, 4, none⟩ (.pointer (some ⟨hb', 0, none⟩))).setCell ⟨p, 5, none⟩ (.map (some mb'))) p pd hb' mb' m' dv := by
  have h1 := heap_setCell_same w p 1 _ _ (.int .u64 m'.N) h
  have h2 := heap_setCell_same _ p 2 _ _ (.int .u64 m'.G) h1
  have h3 := heap_setCell_same _ p 3 _ _ (.int .i64 m'.K) h2
  have h4 := heap_setCell_same _ p 4 _ _ (.pointer (some ⟨hb', 0, none⟩)) h3
  have h5 := heap_setCell_same _ p 5 _ _ (.map (some mb')) h4
  exact h5
theorem chg5 (w : World) (p : Nat) (a b c d e : Value) : Chg (fun k => k = p) w (((((w.setCell ⟨p, 1, none⟩ a).setCell ⟨p, 2, none⟩ b).setCell ⟨p, 3, none⟩ c).setCell ⟨p, 4, none⟩ d).setCell ⟨p, 5, none⟩ e) :=
  Chg.setCell (S := fun k => k = p) (Chg.setCell (S := fun k => k = p) (Chg.setCell (S := fun k => k = p) (Chg.setCell (S := fun k => k = p) (Chg.setCell (S := fun k => k = p) (Chg.refl _ _) (p := ⟨p, 1, none⟩) (.inl rfl) _) (p := ⟨p, 2, none⟩) (.inl rfl) _) (p := ⟨p, 3, none⟩) (.inl rfl) _) (p := ⟨p, 4, none⟩) (.inl rfl) _) (p := ⟨p, 5, none⟩) (.inl rfl) _
/-- There is room for what a change writes; few entries. (Functions: the walk would take the inequalities apart.) -/
def Room (D : DM) : Prop := Unit → (D.ws.length + 4300000000) * 32 ≤ 140737488355328
def Few (F : Ent) : Prop := Unit → F.length ≤ 65536
theorem putsF_room {D : DM} {H : HM} {l : Ent} (hl : l.length ≤ 65536) (hm : (D.ws.length + 4300000000) * 32 ≤ 140737488355328) : ((putsF D H l).2.1.ws.length + 65537) * 32 ≤ 140737488355328 := by
  have h1 := Int.ofNat_le.2 (putsF_ws l D H)
  have h2 := Int.ofNat_le.2 (Nat.mul_le_mul_left 65535 hl)
  have h3 := Int.ofNat_le.2 hm
  refine Int.ofNat_le.1 ?_
  rw [Int.natCast_add] at h1
  rw [show ((65535 * 65536 : Nat) : Int) = 4294901760 from by decide] at h2
  rw [Int.natCast_mul, Int.natCast_add] at h3
  rw [Int.natCast_mul, Int.natCast_add]
  generalize ((65535 * l.length : Nat) : Int) = z at h1 h2
  generalize (((putsF D H l).2.1.ws.length : Nat) : Int) = a at h1 ⊢
  generalize ((D.ws.length : Nat) : Int) = b at h1 h3
  have e1 : ((4300000000 : Nat) : Int) = 4300000000 := rfl
  have e2 : ((32 : Nat) : Int) = 32 := rfl
  have e3 : ((140737488355328 : Nat) : Int) = 140737488355328 := rfl
  have e4 : ((65537 : Nat) : Int) = 65537 := rfl
  rw [e1, e2, e3] at h3
  rw [e2, e3, e4]
  omega
set_option maxRecDepth 100000 in
set_option maxHeartbeats 8000000 in
theorem compact_any {w : World} {okd ok okr okn : Nat → Prop} {p pd hb mb mn : Nat} {dv : Value} {S : SM} {F : Ent} (hd : PDisk w okd pd S.D) (h : PSb w ok okr p pd hb mb dv S) (hwf : S.wf) (hn : EMap w okn mn F) (hFs : SortedE F)
    (hFe : ∀ x ∈ F, keyedB x.1 ∧ Bytes x.2 ∧ x.2.length ≤ 131072) (hFl : Few F) (hod : ∀ k, okd k → k < w.heap.size) (hon : ∀ k, okn k → k < w.heap.size) (hos : ∀ k, ok k → k < w.heap.size)
    (hap : apart okd (fun k => ok k ∨ okn k ∨ k = mn)) (hnr : ∀ k, okn k → k ≠ p ∧ k ≠ mn) (hmp : mn ≠ p) (hm : Room S.D) :
    Calls Tryz.prog 107 #[.pointer (some ⟨p, 0, none⟩), .map (some mn)] w fun e w' => e = .returned (.int .i64 (compactF S F).1) ∧ SysOut w w' okd (fun k => ok k ∨ okn k ∨ k = mn) p pd (compactF S F).2 ∧ Chg (fun k => okd k ∨ k = p) w w' := by
  obtain ⟨R, hR⟩ : ∃ R, compactF S F = R := ⟨_, rfl⟩
  rw [hR]
  have HR := hid hR
  clear hR
  have hwfd := hwf.d
  have hlo := hwfd.lo
  have hhi := hwfd.hi
  have hsz : sizeM S.D ≤ 4096 := by unfold sizeM; omega
  have hle := blocksE_le F
  have hnn := blocksE_nn F
  have hbl := blocks_map (w := w.drew) (hn.step (w1 := w.drew) rfl (fun _ _ _ => rfl)) hFs (hFl ()) (fun x hx => (hFe x hx).2.2)
  have hnlt := hn.lt
  have hplt := h.blk.lt
  obtain ⟨B, hB⟩ : ∃ B, blocksE F = B := ⟨_, rfl⟩
  rw [hB] at hbl hle hnn
  have H0 := hid (And.intro hd (And.intro h (And.intro hn (And.intro hFs (And.intro hFe hB)))))
  have hblk := h.blk
  have hne := h.ne
  have HZ := hid (And.intro hod (And.intro hon (And.intro hos (And.intro hap (And.intro hnr (And.intro hmp hne))))))
  have HW := hid hwf
  clear hB hd h hn hFs hFe hod hon hos hap hnr hmp hne hwf hwfd hlo
  go_enter Tryz.func107, Tryz.ntmps107
  go_wp2_with fail
  refine wp_region_plan [] (.take 0 (.take 2 (.take 3 (.take 4 (.take 5 (.run 1 (.run 6 (.take 7 .done)))))))) (fun W => SBlk W p pd hb mb S.m dv) (by kernel_rfl) (by kernel_rfl) (fun c a d v w h => by cases d <;> exact h) hblk ?_
  iterate 5 (apply plan_take rfl rfl; (case hy => (intro w' hS; have s0 := hS.c0; clear hS; go_simp; try exact rfl)); go_simp)
  refine plan_run_on rfl rfl (fun J hJ => ?_)
  go_simp
  refine hbl.mono ?_
  rintro e w1 ⟨rfl, hB1⟩
  have hB1' : Below w.heap.size w w1 := (below_drew (Below.refl w.heap.size w)).trans hB1
  have hblk1 : SBlk w1 p pd hb mb S.m dv := hblk.step (hB1'.block _ hplt)
  have hsi := size_any (H0.out.1.step (w1 := w1) (fun k _ hk => hB1'.block k hk))
  refine hJ _ _ _ (fun _ h => h) hblk1 ?_
  clear hJ J
  refine plan_run_on rfl rfl (fun J hJ => ?_)
  go_simp
  refine hsi.mono ?_
  rintro e w' ⟨rfl, rfl⟩
  refine hJ _ _ _ (fun _ h => h) hblk1 ?_
  clear hJ J
  apply plan_take rfl rfl
  case hy => (intro w' hS; clear hS; go_simp; try exact rfl)
  go_simp
  refine plan_done ?_
  clear hbl hsi hblk hB1
  by_cases hfull : (sizeM S.D : Int) < B
  · go_wp2
    go_ret
    obtain ⟨hd, h, _⟩ := H0.out
    obtain ⟨hod, hon, hos, hap, hnr, hmp, hne⟩ := HZ.out
    have hR : R = (63, S) := by rw [← HR.out]; unfold compactF; rw [H0.out.2.2.2.2.2, if_pos hfull]
    rw [hR]
    exact ⟨rfl, ⟨okd, ok, hd.step (fun k _ hk => hB1'.block k hk), ⟨okr, hb, mb, dv, h.step (fun k _ hk => hB1'.block k hk)⟩, fun k h1 h2 => hap k h1 (.inl h2), fun k hk => .inl hk, fun k hk => .inl (.inl hk)⟩, Chg.of_below hB1' _⟩
  have c0 := hblk1.c0
  by_cases hg : S.D.gone = true
  · have hst := standing_gone (H0.out.1.step (w1 := w1) (fun k _ hk => hB1'.block k hk)) hg
    unfold manV at hst
    go_wp2_with fail
    refine hst.mono ?_
    rintro e w2 ⟨rfl, hB2⟩
    have hB3 := below_step (below_step hB1' hB2) (below_alloc (Below.refl _ _) (.cells #[.int .u64 0, .int .u64 0, .int .i64 0] 29))
    have hs3 := hB3.size
    have h3 := H0.out.2.1.step (w1 := w2.alloc (.cells #[.int .u64 0, .int .u64 0, .int .i64 0] 29)) (fun k _ hk => hB3.block k hk)
    have hme := met_err h3 (E := 61) (by omega)
    clear hst hB2 c0 hblk1 h3
    go_wp2_with fail
    generalize w2.alloc (.cells #[.int .u64 0, .int .u64 0, .int .i64 0] 29) = w3 at hB3 hs3 hme ⊢
    refine hme.mono ?_
    rintro e w4 ⟨rfl, h4, hC4⟩
    have HF := hid (And.intro h4 hC4)
    clear h4 hC4 hme
    go_wp2
    go_ret
    obtain ⟨h4, hC4⟩ := HF.out
    obtain ⟨hd, h, _⟩ := H0.out
    obtain ⟨hod, hon, hos, hap, hnr, hmp, hne⟩ := HZ.out
    have hC := (Chg.of_below hB3 (fun k => k = p)).then_ hC4 (fun k hk => .inl hk)
    have hR : R = (61, { S with dead := true }) := by rw [← HR.out]; unfold compactF; rw [H0.out.2.2.2.2.2, if_neg (by omega), if_pos hg]
    rw [hR]
    exact ⟨rfl, ⟨okd, orNew ok w3, hd.step (fun k hk hlt => hC.block k hlt (fun e => hap k hk (.inl (e ▸ h.okp)))), ⟨okr, hb, mb, _, h4⟩, fun k h1 h2 => h2.elim (fun h2 => hap k h1 (.inl h2)) (fun h2 => by have := hod k h1; omega), fun k hk => .inl hk, fun k hk => hk.elim (fun h => .inl (.inl h)) (fun h => .inr (by omega))⟩, hC.mono (fun k hk => .inr hk)⟩
  have hg0 : S.D.gone = false := by simpa using hg
  have hst := standing_ok (H0.out.1.step (w1 := w1) (fun k _ hk => hB1'.block k hk)) hg0
  have hsg := stG_bnd S.D
  have hmok := HW.out.m
  obtain ⟨P, hP⟩ : ∃ P, pickM S.D = P := ⟨_, rfl⟩
  rw [hP] at hst
  obtain ⟨g, hgs⟩ : ∃ g, stG S.D = g := ⟨_, rfl⟩
  rw [hgs] at hst hsg
  unfold manV at hst
  obtain ⟨PN, PG, PK⟩ := P
  dsimp only at hst
  clear hP
  have c1 := hblk1.c1
  obtain ⟨N, hN⟩ : ∃ N, S.m.N = N := ⟨_, rfl⟩
  obtain ⟨K, hK⟩ : ∃ K, S.m.K = K := ⟨_, rfl⟩
  have hNb : 1 ≤ N ∧ N ≤ 9223372036854775807 := by rw [← hN]; exact ⟨hmok.1, hmok.2.1⟩
  have hKb : 0 ≤ K ∧ K ≤ 1 := by rw [← hK]; exact hmok.2.2.2.2
  rw [hN] at c1
  unfold mostN at hsg
  have HB1 := hid (And.intro hgs (And.intro hN hK))
  clear hgs hN hK hmok hblk1
  by_cases hmax : N = 9223372036854775807 ∨ g = 9223372036854775807
  · have hfin : ∀ w', Below w.heap.size w w' → (.returned (.int .i64 62) : Ending) = .returned (.int .i64 R.1) ∧ SysOut w w' okd (fun k => ok k ∨ okn k ∨ k = mn) p pd R.2 ∧ Chg (fun k => okd k ∨ k = p) w w' := by
      intro w' hB
      obtain ⟨hd, h, _⟩ := H0.out
      obtain ⟨hod, hon, hos, hap, hnr, hmp, hne⟩ := HZ.out
      have hR : R = (62, S) := by rw [← HR.out]; unfold compactF; rw [H0.out.2.2.2.2.2, if_neg (by omega), if_neg hg, if_pos (by rw [HB1.out.1, HB1.out.2.1]; exact hmax)]
      rw [hR]
      exact ⟨rfl, ⟨okd, ok, hd.step (fun k _ hk => hB.block k hk), ⟨okr, hb, mb, dv, h.step (fun k _ hk => hB.block k hk)⟩, fun k h1 h2 => hap k h1 (.inl h2), fun k hk => .inl hk, fun k hk => .inl (.inl hk)⟩, Chg.of_below hB _⟩
    have HFI := hid hfin
    clear hfin
    go_wp2_with fail
    refine hst.mono ?_
    rintro e w2 ⟨rfl, hB2⟩
    have hB2a := below_step hB2 (below_alloc (Below.refl _ _) (.cells #[.int .u64 PN, .int .u64 PG, .int .i64 PK] 29))
    have c1' := (hB2a.cell (p := ⟨p, 1, none⟩) (Nat.lt_of_lt_of_le hplt hB1'.size)).trans c1
    have hB3 := below_step hB1' hB2a
    clear hst hB2 hB2a c1 c0
    rcases hmax with h0 | h0
    · subst h0
      go_wp2
      go_ret
      exact HFI.out _ hB3
    · subst h0
      by_cases hN1 : N = 9223372036854775807
      · subst hN1
        go_wp2
        go_ret
        exact HFI.out _ hB3
      · have hN2 : (N == 9223372036854775807) = false := by simpa using hN1
        go_wp2
        go_ret
        exact HFI.out _ hB3
  have hN2 : (N == 9223372036854775807) = false := by simpa using (by omega : ¬ N = 9223372036854775807)
  have hg2 : (g == 9223372036854775807) = false := by simpa using (by omega : ¬ g = 9223372036854775807)
  obtain ⟨N1, hN1⟩ : ∃ N1, N + 1 = N1 := ⟨_, rfl⟩
  obtain ⟨g1, hg1⟩ : ∃ g1, g + 1 = g1 := ⟨_, rfl⟩
  obtain ⟨K1, hK1⟩ : ∃ K1, 1 - K = K1 := ⟨_, rfl⟩
  have u1 : IntKind.u64.wrap (N + 1) = N1 := by rw [IntKind.wrap_u64]; omega
  have u2 : IntKind.u64.wrap (g + 1) = g1 := by rw [IntKind.wrap_u64]; omega
  have u3 : IntKind.i64.wrap (1 - K) = K1 := by rw [IntKind.wrap_i64]; omega
  have hok1 : (⟨N1, g1, K1⟩ : MM).ok := by unfold MM.ok mostN; dsimp only; omega
  have hnx : S.next = ⟨N1, g1, K1⟩ := by unfold SM.next; rw [HB1.out.1, HB1.out.2.1, HB1.out.2.2, hN1, hg1, hK1]
  have HNX := hid (And.intro hnx hok1)
  have hK1b : 0 ≤ K1 ∧ K1 ≤ 1 := by omega
  have hg1b : 1 ≤ g1 := by omega
  clear hnx hok1
  go_wp2_with fail
  refine hst.mono ?_
  rintro e w2 ⟨rfl, hB2⟩
  have hB2a := below_step hB2 (below_alloc (Below.refl _ _) (.cells #[.int .u64 PN, .int .u64 PG, .int .i64 PK] 29))
  have c1' := (hB2a.cell (p := ⟨p, 1, none⟩) (Nat.lt_of_lt_of_le hplt hB1'.size)).trans c1
  have hB3 := below_step hB1' hB2a
  clear hst hB2 hB2a c1 c0 hN1 hg1 hK1 hmax
  go_wp2_with fail
  generalize w2.alloc (.cells #[.int .u64 PN, .int .u64 PG, .int .i64 PK] 29) = w3 at hB3 c1' ⊢
  have hblk3 : SBlk w3.drew p pd hb mb S.m dv := H0.out.2.1.blk.step (hB3.block _ hplt)
  have hs3 := hB3.size
  have HS3 := hid (And.intro HB1.out.2.1 HB1.out.2.2)
  clear c1'
  refine wp_region_plan [16] (.take 0 (.take 1 (.take 2 (.take 3 (.take 4 (.take 5 (.take 6 (.take 7 (.take 8 (.take 9 (.take 10 (.take 11 (.take 12 (.take 13 (.take 14 (.run 15 (.tail 16 .done))))))))))))))))) (fun W => SBlk W p pd hb mb S.m dv) (by kernel_rfl) (by kernel_rfl) (fun c a d v w h => by cases d <;> exact h) hblk3 ?_
  iterate 15 (apply plan_take rfl rfl; (case hy => (intro w' hS; have s1 := hS.c1; have s3 := hS.c3; rw [HS3.out.1] at s1; rw [HS3.out.2] at s3; clear hS; go_simp; try exact rfl)); go_simp)
  refine plan_run_on rfl rfl (fun J hJ => ?_)
  go_simp
  have hlt3 : p < w3.heap.size := Nat.lt_of_lt_of_le hplt hs3
  have hblk4 : SBlk ((w3.alloc (.cells #[.int .u64 0, .int .u64 0, .int .i64 0] 29)).drew) p pd hb mb S.m dv := hblk3.step (Below.heap_alloc w3 (.cells #[.int .u64 0, .int .u64 0, .int .i64 0] 29) _ hlt3)
  refine hJ _ _ _ (fun _ h => h) hblk4 ?_
  clear hJ J
  refine plan_tail_on rfl rfl (fun J hJ => ?_)
  go_simp
  have hx4 : (w3.alloc (.cells #[.int .u64 N1, .int .u64 g1, .int .i64 K1] 29)).drew.heap[w3.heap.size]? = some (.cells #[.int .u64 N1, .int .u64 g1, .int .i64 K1] 29 (0, 0)) := heap_alloc_new w3 _
  have hB4 : Below w.heap.size w (w3.alloc (.cells #[.int .u64 N1, .int .u64 g1, .int .i64 K1] 29)).drew := below_drew (below_step hB3 (below_alloc (Below.refl _ _) _))
  generalize (w3.alloc (.cells #[.int .u64 N1, .int .u64 g1, .int .i64 K1] 29)).drew = w4 at hx4 hB4 ⊢
  have hs4 := hB4.size
  have hlt4 := blk_lt hx4
  refine hJ _ _ ?_
  clear hJ J hblk4 hblk3
  refine plan_done ?_
  have hblk5 : SBlk w4.drew p pd hb mb S.m dv := H0.out.2.1.blk.step (hB4.block _ hplt)
  have hP5 : PDisk w4.drew okd pd S.D := H0.out.1.step (fun k _ hk => hB4.block k hk)
  have hba := base_any hP5 K1 (by omega)
  have hsi := size_any hP5
  have hnw := hnew_ok hP5 (baseM S.D K1) (sizeM S.D) g1 (hnew_fine HW.out.d (by omega) (by omega))
  have hx5 : w4.drew.heap[w3.heap.size]? = some (.cells #[.int .u64 N1, .int .u64 g1, .int .i64 K1] 29 (0, 0)) := hx4
  clear hP5
  go_wp2_with fail
  refine wp_region_plan [] (.take 0 (.take 1 (.take 2 (.take 3 (.take 4 (.take 5 (.take 6 (.take 7 (.take 8 (.take 9 (.take 11 (.take 12 (.take 13 (.take 14 (.take 16 (.take 17 (.run 10 (.run 15 (.run 18 (.take 19 (.take 20 (.take 21 (.take 22 (.take 23 .done)))))))))))))))))))))))) (fun W => SBlk W p pd hb mb S.m dv ∧ W.heap[w3.heap.size]? = some (.cells #[.int .u64 N1, .int .u64 g1, .int .i64 K1] 29 (0, 0))) (by kernel_rfl) (by kernel_rfl) (fun c a d v w h => by cases d <;> exact h) ⟨hblk5, hx5⟩ ?_
  iterate 16 (apply plan_take rfl rfl; (case hy => (intro w' hS; have s0 := hS.1.c0; have s1 := cell_of_row _ _ 1 _ _ _ hS.2; have s2 := cell_of_row _ _ 2 _ _ _ hS.2; simp at s1 s2; clear hS; go_simp; try exact rfl)); go_simp)
  refine plan_run_on rfl rfl (fun J hJ => ?_)
  go_simp
  refine hba.mono ?_
  rintro e W' ⟨rfl, rfl⟩
  refine hJ _ _ _ (fun _ h => h) ⟨hblk5, hx5⟩ ?_
  clear hJ J
  refine plan_run_on rfl rfl (fun J hJ => ?_)
  go_simp
  refine hsi.mono ?_
  rintro e W' ⟨rfl, rfl⟩
  refine hJ _ _ _ (fun _ h => h) ⟨hblk5, hx5⟩ ?_
  clear hJ J
  refine plan_run_on rfl rfl (fun J hJ => ?_)
  go_simp
  refine hnw.mono ?_
  rintro e w5 ⟨rfl, hh5, hB5⟩
  have hB5' : Below w4.heap.size w4 w5 := (below_drew (Below.refl w4.heap.size w4)).trans hB5
  have hx6 := (hB5'.block _ hlt4).trans hx4
  have hB6 := below_step hB4 hB5'
  have hblk6 : SBlk w5 p pd hb mb S.m dv := H0.out.2.1.blk.step (hB6.block _ hplt)
  refine hJ _ _ _ (fun _ h => h) ⟨hblk6, hx6⟩ ?_
  clear hJ J hba hsi hnw hB5 hx5 hblk5 hx4
  iterate 5 (apply plan_take rfl rfl; (case hy => (intro w' hS; clear hS; go_simp; try exact rfl)); go_simp)
  refine plan_done ?_
  have hlt5 : w4.heap.size < w5.heap.size := hh5.lt
  have hs45 : w4.drew.heap.size = w4.heap.size := rfl
  rw [hs45] at hh5
  obtain ⟨f, ⟨D0, hown, h1, h2⟩, hr⟩ := H0.out.2.2.1.step (w1 := w5) (hB6.block _ hnlt) (fun k hk hlt => hB6.block k hlt)
  have hFs := H0.out.2.2.2.1
  have hki := keys_iff hr
  have hmsz := MapV.size hown Tryz.underlying9 h1 hFs hki
  have hfl : F.length ≤ 65536 := hFl ()
  rw [show (keysE F).length = F.length from by unfold keysE; simp] at hmsz
  have hk := (callsIn_wide (n := 5)).1 (Tryz.maps_Keys_74 (some mn) w5)
  have hso := (callsIn_wide (n := 5)).1 (Tryz.slices_Sorted_keys_148_74 mn F.length D0 heldV w5 hown (by rw [hmsz]; unfold maxLen; omega) (by rw [hmsz]; omega))
  have hkeys := fun (ss : List BL) (hp : ss.Perm (strKeys D0)) => MapV.keys hown Tryz.underlying9 h1 hp hFs hki
  have HK := hid hkeys
  clear hkeys hown h1 h2 hr hki hmsz hfl hFs
  have ba := below_alloc (Below.refl w5.heap.size w5) (.cells #[.map (some mn)] 97)
  go_wp2_with fail
  refine hk.mono ?_
  rintro e w6 ⟨rfl, rfl⟩
  clear hk
  go_wp2_with fail
  refine hso.mono ?_
  rintro e w7 ⟨u, ss, rfl, hp, hrow, _, hb7⟩
  have hkk := HK.out ss hp
  have hl : ss.length = F.length := by
    have := congrArg List.length hkk
    rw [List.length_mergeSort, List.length_map] at this
    rw [this]; unfold keysE; simp
  rw [hkk, ← map_enc, hl, show F.length = (keysE F).length from by unfold keysE; simp] at hrow
  have hR : KS.R 9 w7 (w5.alloc (.cells #[.map (some mn)] 97)).heap.size (fun _ => True) u (keysE F) := Kd.R_of_own hrow (fun _ _ => trivial)
  obtain ⟨A, c, rfl, hR'⟩ := KS_own hR
  have hB7 := below_step ba hb7
  have hsz7 := hb7.size
  rw [World.size_alloc] at hsz7
  clear hso hrow hR ba hb7 hkk hp HK hl
  have hKF : KS.F w7 (fun k => w5.heap.size ≤ k) A (keysE F).length (keysE F) := Kd.F_mono (Kd.R_F hR') (fun k hk => by rw [World.size_alloc] at hk; omega)
  have hB8 := below_step hB6 hB7
  have hx7 := (hB7.block _ (blk_lt hx6)).trans hx6
  have hh7 : HBlk w7 w4.heap.size pd (log0 S.D ⟨N1, g1, K1⟩) := hh5.step (hB7.block _ hlt5)
  have hf0 : (log0 S.D ⟨N1, g1, K1⟩).fine := log0_fine HW.out.d HNX.out.2
  have hlen : (keysE F).length = F.length := by unfold keysE; simp
  have hP7 := H0.out.1.step (w1 := w7) (fun k _ hk => hB8.block k hk)
  have HK := hid (And.intro hKF (And.intro hx7 (And.intro hB8 (And.intro hf0 hR'))))
  clear hKF hx7 hf0 hR' hx6 hblk6 hB6 hB4 hB5' hB3 hh5 hB7
  rw [hlen]
  obtain ⟨L0, hL0⟩ : ∃ L0, log0 S.D ⟨N1, g1, K1⟩ = L0 := ⟨_, rfl⟩
  rw [hL0] at HK hh7
  have HL0 := hid hL0
  clear hL0
  go_wp2_with fail
  go_loopw [92] (fun i wr => ∃ j : Nat, j ≤ F.length ∧ i = .int .i64 j ∧ (putsF S.D L0 (F.take j)).1 = 0 ∧ PDisk wr (fun k => okd k ∨ w7.heap.size ≤ k) pd (putsF S.D L0 (F.take j)).2.1 ∧ HBlk wr w4.heap.size pd (putsF S.D L0 (F.take j)).2.2 ∧ Chg (fun k => okd k ∨ k = w4.heap.size) w7 wr) (fun i _ => F.length - (intOf i).toNat)
  case atStart => exact ⟨0, Nat.zero_le _, rfl, rfl, hP7.mono (fun k hk => .inl hk), hh7, Chg.refl _ _⟩
  case round =>
    clear hP7 hh7
    obtain ⟨W, hW⟩ : ∃ W : World, W = wr := ⟨_, rfl⟩
    subst hW
    obtain ⟨j, hj, rfl, hE0, hP, hh, hC⟩ := hrel
    obtain ⟨hKF, hx7, hB8, hf0, hR'⟩ := HK.out
    obtain ⟨hd, h, hn, hFs, hFe, _⟩ := H0.out
    obtain ⟨hod, hon, hos, hap, hnr, hmp, hne⟩ := HZ.out
    have hsW := hC.size
    -- what stands as it stood
    have hstay : ∀ k, k < w.heap.size → ¬ okd k → W.heap[k]? = w.heap[k]? := fun k hk hnk => (hC.block k (Nat.lt_of_lt_of_le hk hB8.size) (fun e => e.elim hnk (fun e => by omega))).trans (hB8.block k hk)
    have hsto := h.step (w1 := W) (fun k hk hlt => hstay k hlt (fun e => hap k e (.inl hk)))
    by_cases hlt : j < F.length
    · have hltI : (j : Int) < (F.length : Int) := by omega
      have HJ := hid (show j + 1 ≤ F.length from hlt)
      have hKW := Kd.F_now (Kd.F_step hKF (W1 := W) (fun k hk hlt => hC.block k hlt (fun e => e.elim (fun e => by have := hod k e; omega) (fun e => by omega))))
      cases A with
      | none =>
        have := KS_none hKW
        rw [this] at hlen
        simp at hlen
        omega
      | some ad =>
      have hcell := KS_at hKW (i := j) (by omega)
      have hxj : (keysE F)[j]'(by omega) = F[j].1 := by unfold keysE; exact List.getElem_map _
      rw [hxj] at hcell
      have hmem : F[j] ∈ F := List.getElem_mem hlt
      have hxe := hFe _ hmem
      have hlk := mem_look hFs (k := F[j].1) (v := F[j].2) hmem
      have htk : F.take (j + 1) = F.take j ++ [F[j]] := List.take_succ_eq_append_getElem hlt
      have hsn := putsF_snoc (F.take j) S.D L0 F[j]
      rw [← htk, if_pos hE0] at hsn
      have hroom := putsF_room (D := S.D) (H := L0) (l := F.take j) (by rw [List.length_take]; have := hFl (); omega) (hm ())
      have hfn := (putsF_fine (F.take j) S.D L0 hf0).1
      have hent : EMap W okn mn F := hn.step (hstay mn hnlt (fun e => hap mn e (.inr (.inr rfl)))) (fun k hk hlt => hstay k hlt (fun e => hap k e (.inr (.inl hk))))
      obtain ⟨A', n', c', _, hl2, hn', hnc, hRB⟩ := hent.look (k := F[j].1) (by have := hxe.1.2; omega)
      rw [hlk] at hn' hRB
      simp only [Option.getD_some] at hn' hRB
      have HS := hid (And.intro hsn (And.intro hE0 (And.intro hsto (And.intro hstay hC))))
      generalize putsF S.D L0 (F.take j) = q at hP hh hfn hroom hsn HS
      obtain ⟨q1, Dj, Hj⟩ := q
      generalize F[j] = x at hcell hxe hn' hRB hl2 hsn HS
      obtain ⟨x, bs⟩ := x
      dsimp only at hP hh hfn hroom hcell hxe hn' hRB hl2
      subst hn'
      have hrec := record_any (c := c') x hRB (fun k hk => Nat.lt_of_lt_of_le (hon k hk) (Nat.le_trans hB8.size hsW)) (by have := hxe.1.2; have := hxe.2.2; omega)
      have hbnd := hP.bound
      clear hsn hE0 hsto hstay hC hKF hx7 hB8 hf0 hR' hd h hn hFs hFe hod hon hos hap hnr hmp hne hent hRB hP hlk htk hmem hxj hKW
      have hB8s := HK.out.2.2.1.size
      have hbb := recB_bytes (k := x) hxe.2.1
      have hbl : Unit → (recB x bs).length ≤ 140737488355328 := fun _ => by rw [recB_len]; have := hxe.1.2; have := hxe.2.2; omega
      clear hxe
      go_wp2_with fail
      refine hrec.mono ?_
      rintro e w8 ⟨A8, c8, rfl, hR8, hB9⟩
      have hP8 := hbnd.step (w1 := w8) (fun k hk _ => hB9.block k hk.2)
      have hh8 := hh.step (hB9.block _ hh.lt)
      have hle8 : (recB x bs).length ≤ c8 := by
        obtain ⟨_, _, e8, h8, _⟩ := Kd.R_reads hR8
        injection e8 with _ _ e8
        omega
      have hhlt := hh.lt
      have happ := hput_any hP8 hh8 hfn (Kd.R_F hR8) (fun k hk hk2 => by have := hk2.2; omega) (fun hk => hk.1.elim (fun e => by have := HZ.out.1 _ e; omega) (fun e => by omega)) hle8 hbb (hbl ()) hroom 1
      clear hrec hR8 hP8 hh8 hbb hroom hbnd hh hl2 hcell
      go_wp2_with fail
      refine happ.mono ?_
      rintro e w9 ⟨rfl, hP9, hh9, hC9⟩
      clear happ
      obtain ⟨hsn, hE0, hsto, hstay, hC⟩ := HS.out
      subst hE0
      have hs8 := hB9.size
      have hP9' : PDisk w9 (fun k => okd k ∨ w7.heap.size ≤ k) pd (hputF Dj Hj 1 (recB x bs)).2.1 := hP9.mono (fun k hk => hk.elim (fun hk => hk.1) (fun hk => .inr (by omega)))
      have hCW : Chg (fun k => ((okd k ∨ w7.heap.size ≤ k) ∧ k < W.heap.size) ∨ k = w4.heap.size) W w9 := (Chg.of_below hB9 (fun k => ((okd k ∨ w7.heap.size ≤ k) ∧ k < W.heap.size) ∨ k = w4.heap.size)).then_ hC9 (fun k hk => .inl hk)
      have hC10 := hC.then_ hCW (fun k hk => hk.elim (fun hk => hk.1.elim (fun e => .inl (.inl e)) (fun e => .inr e)) (fun e => .inl (.inr e)))
      clear hP9 hCW hC9 hC hB9
      generalize hq : hputF Dj Hj 1 (recB x bs) = q at hP9' hh9 hsn ⊢
      obtain ⟨E, D', H'⟩ := q
      dsimp only at hP9' hh9 ⊢
      clear hq
      by_cases hE : E = 0
      · subst hE
        have HF := hid (And.intro hsn (And.intro hP9' (And.intro hh9 hC10)))
        clear hsn hP9' hh9 hC10 hsto hstay HS
        go_wp2_with fail
        refine (met_ok _).mono ?_
        rintro e w10 ⟨rfl, rfl⟩
        go_wp2
        go_roundw
        case rel => exact ⟨j + 1, HJ.out, by rw [wrap_succ HJ.out (hFl ())], by rw [HF.out.1], by rw [HF.out.1]; exact HF.out.2.1, by rw [HF.out.1]; exact HF.out.2.2.1, HF.out.2.2.2⟩
        case measure => exact meas_succ HJ.out (hFl ())
      · have hE2 : (E != 0) = true := by simpa using hE
        have hsto9 := H0.out.2.1.step (w1 := w9) (fun k hk hlt => (hC10.block k (Nat.lt_of_lt_of_le hlt hB8s) (fun e => e.elim (fun e => HZ.out.2.2.2.1 k e (.inl hk)) (fun e => by omega))).trans (HK.out.2.2.1.block k hlt))
        have hme := met_err hsto9 hE
        have HF := hid (And.intro hsn (And.intro hP9' (And.intro hh9 hC10)))
        clear hsn hP9' hh9 hC10 hsto hstay HS hsto9
        go_wp2_with fail
        refine hme.mono ?_
        rintro e w10 ⟨rfl, h10, hC11⟩
        have HG := hid (And.intro h10 hC11)
        clear h10 hC11 hme
        go_wp2
        go_ret
        obtain ⟨hsn, hP9, hh9, hC10⟩ := HF.out
        obtain ⟨h10, hC11⟩ := HG.out
        obtain ⟨hod, hon, hos, hap, hnr, hmp, hne⟩ := HZ.out
        have hall : putsF S.D L0 F = (E, D', H') := by
          have h1 := putsF_stop (F.take (j + 1)) (F.drop (j + 1)) S.D L0 (by rw [hsn]; exact hE)
          rw [List.take_append_drop, hsn] at h1
          exact h1
        have hR : R = (E, { S with D := D', dead := true }) := by
          rw [← HR.out]
          unfold compactF
          rw [H0.out.2.2.2.2.2, if_neg (by omega), if_neg hg, if_neg (by rw [HB1.out.1, HB1.out.2.1]; unfold mostN; simp at hN2 hg2; omega), HNX.out.1, HL0.out, hall, if_neg hE]
        rw [hR]
        have hokp := H0.out.2.1.okp
        have hC12 := ((Chg.of_below HK.out.2.2.1 (fun k => okd k ∨ k = p)).then_ hC10 (fun k hk => hk.elim (fun e => .inl (.inl e)) (fun e => .inr (by omega)))).then_ hC11 (fun k hk => .inl (.inr hk))
        exact ⟨rfl, ⟨_, orNew ok w9, hP9.bound.step (fun k hk hlt => hC11.block k hlt (fun e => hk.1.elim (fun hk => hap k hk (.inl (e ▸ hokp))) (fun hk => by omega))), ⟨okr, hb, mb, _, h10.withD D'⟩,
          fun k h1 h2 => h2.elim (fun h2 => h1.1.elim (fun h1 => hap k h1 (.inl h2)) (fun h1 => by have := hos k h2; omega)) (fun h2 => by have := h1.2; omega),
          fun k hk => hk.1.elim .inl (fun h => .inr (by omega)), fun k hk => hk.elim (fun h => .inl (.inl h)) (fun h => .inr (by have := hC10.size; omega))⟩, hC12⟩
    · obtain rfl : j = F.length := by omega
      rw [List.take_length] at hE0 hP hh
      have hltI : ¬ ((F.length : Nat) : Int) < (F.length : Int) := by omega
      have hxW := (hC.block _ (blk_lt hx7) (fun e => e.elim (fun e => by have := hod _ e; omega) (fun e => by omega))).trans hx7
      have hroom := putsF_room (D := S.D) (H := L0) (l := F) (hFl ()) (hm ())
      have hblkW := hsto.blk
      have hpW : p < W.heap.size := Nat.lt_of_lt_of_le hplt (Nat.le_trans hB8.size hsW)
      have HS := hid (And.intro hE0 (And.intro hsto (And.intro hstay hC)))
      generalize hq : putsF S.D L0 F = q at hP hh hroom HS
      have HQ := hid hq
      clear hq
      obtain ⟨q1, D', H'⟩ := q
      dsimp only at hP hh hroom
      have hfl := flip_any (w := W.drew) (m := ⟨N1, g1, K1⟩) (hP.bound.step (w1 := W.drew) (fun _ _ _ => rfl)) HNX.out.2 hroom (fun k hk => hk.2)
      unfold manV at hfl
      dsimp only at hfl
      obtain ⟨E2, hE2⟩ : ∃ E2, (flipF D' ⟨N1, g1, K1⟩).1 = E2 := ⟨_, rfl⟩
      obtain ⟨D2, hD2⟩ : ∃ D2, (flipF D' ⟨N1, g1, K1⟩).2 = D2 := ⟨_, rfl⟩
      rw [hE2, hD2] at hfl
      have HE := hid (And.intro hE2 hD2)
      have HH := hid hh
      have HKEEP := hid (And.intro hx7 hB8)
      clear hE0 hsto hstay hC hKF hx7 hf0 hR' hd h hn hFs hFe hod hon hos hap hnr hmp hne hroom hP hE2 hD2 hh hlen hB8 hm
      have hs0 : W.drew.cell? ⟨p, 0, none⟩ = some (.pointer (some ⟨pd, 0, none⟩)) := hblkW.c0
      have hxd : W.drew.heap[w3.heap.size]? = some (.cells #[.int .u64 N1, .int .u64 g1, .int .i64 K1] 29 (0, 0)) := hxW
      have hxlt := blk_lt hxW
      go_wp2_with fail
      refine wp_region_plan [] (.take 0 (.take 1 (.take 2 (.take 3 (.take 4 (.take 5 (.run 6 (.run 7 (.take 8 .done))))))))) (fun W' => W'.cell? ⟨p, 0, none⟩ = some (.pointer (some ⟨pd, 0, none⟩)) ∧ W'.heap[w3.heap.size]? = some (.cells #[.int .u64 N1, .int .u64 g1, .int .i64 K1] 29 (0, 0))) (by kernel_rfl) (by kernel_rfl) (fun c a d v w h => by cases d <;> exact h) ⟨hs0, hxd⟩ ?_
      iterate 6 (apply plan_take rfl rfl; (case hy => (intro w' hS; have s0 := hS.1; have z0 := cell_of_row _ _ 0 _ _ _ hS.2; have z1 := cell_of_row _ _ 1 _ _ _ hS.2; have z2 := cell_of_row _ _ 2 _ _ _ hS.2; simp at z0 z1 z2; clear hS; go_simp; try exact rfl)); go_simp)
      refine plan_run_on rfl rfl (fun J hJ => ?_)
      go_simp
      refine hfl.mono ?_
      rintro e w10 ⟨rfl, hP10, hC10⟩
      have hnS : ∀ k, k < w7.heap.size → ¬ okd k → ¬ ((okd k ∨ w7.heap.size ≤ k) ∧ k < W.heap.size) := fun k h1 h2 h3 => h3.1.elim h2 (fun h => by omega)
      have hC10' : Chg (fun k => (okd k ∨ w7.heap.size ≤ k) ∧ k < W.heap.size) W w10 := ((Chg.refl _ W).drew).then_ hC10 (fun k hk => .inl hk)
      have hpn : ¬ okd p := fun e => HZ.out.2.2.2.1 p e (.inl H0.out.2.1.okp)
      have hs10 : w10.cell? ⟨p, 0, none⟩ = some (.pointer (some ⟨pd, 0, none⟩)) := hC10'.cell_ hblkW.c0 (hnS p (by have := HKEEP.out.2.size; omega) hpn)
      have hx10 := (hC10'.block _ hxlt (hnS _ (by omega) (fun e => by have := HZ.out.1 _ e; omega))).trans hxW
      have hsto10 := HS.out.2.1.step (w1 := w10) (fun k hk hlt2 => hC10'.block k hlt2 (hnS k (by have := HZ.out.2.2.1 k hk; have := HKEEP.out.2.size; omega) (fun e => HZ.out.2.2.2.1 k e (.inl hk))))
      refine hJ _ _ _ (fun _ h => h) ⟨hs10, hx10⟩ ?_
      clear hJ J hfl hxd hs0
      have HF := hid (And.intro hP10 hC10')
      clear hP10 hC10 hC10'
      by_cases hE : E2 = 0
      · subst hE
        refine plan_run_on rfl rfl (fun J hJ => ?_)
        go_simp
        refine (met_ok _).mono ?_
        rintro e w11 ⟨rfl, rfl⟩
        refine hJ _ _ _ (fun _ h => h) ⟨hs10, hx10⟩ ?_
        clear hJ J
        apply plan_take rfl rfl
        case hy => (intro w' hS; clear hS; go_simp; try exact rfl)
        go_simp
        refine plan_done ?_
        have hb10 := hsto10.blk
        have y0 := hb10.c0
        have y1 := hb10.c1
        have y2 := hb10.c2
        have y3 := hb10.c3
        have y4 := hb10.c4
        have y5 := hb10.c5
        have f1 := hb10.free 1
        have f2 := hb10.free 2
        have f3 := hb10.free 3
        have f4 := hb10.free 4
        have f5 := hb10.free 5
        have z0 := cell_of_row _ _ 0 _ _ _ hx10
        have z1 := cell_of_row _ _ 1 _ _ _ hx10
        have z2 := cell_of_row _ _ 2 _ _ _ hx10
        simp at z0 z1 z2
        have hnp : ¬ w3.heap.size = p := by omega
        have HB := hid (And.intro (setStore hb10 ⟨N1, g1, K1⟩ w4.heap.size mn) (chg5 w10 p (.int .u64 N1) (.int .u64 g1) (.int .i64 K1) (.pointer (some ⟨w4.heap.size, 0, none⟩)) (.map (some mn))))
        have HT := hid hsto10
        clear hb10 hsto10 hx10 hblkW hxW hs10
        go_wp2_with fail
        go_ret
        obtain ⟨hE0, hsto, hstay, hC⟩ := HS.out
        subst hE0
        obtain ⟨hE2, hD2⟩ := HE.out
        obtain ⟨hod, hon, hos, hap, hnr, hmp, hne⟩ := HZ.out
        obtain ⟨hd, h, hn, hFs, hFe, hBe⟩ := H0.out
        obtain ⟨hP10, hC10⟩ := HF.out
        obtain ⟨hx7, hB8⟩ := HKEEP.out
        have hq := HQ.out
        rw [← HL0.out, ← HNX.out.1] at hq
        rw [← HNX.out.1] at hE2 hD2
        have hR := compactF_done (by rw [hBe]; omega) hg (by rw [HB1.out.1, HB1.out.2.1]; unfold mostN; simp at hN2 hg2; omega) hq hE2 hD2
        rw [HR.out, HNX.out.1] at hR
        have hCa := ((Chg.of_below hB8 (fun k => okd k ∨ k = p)).then_ hC (fun k hk => hk.elim (fun e => .inl (.inl e)) (fun e => .inr (by omega)))).then_ hC10 (fun k hk => hk.1.elim (fun e => .inl (.inl e)) (fun e => .inr (by have := hB8.size; omega)))
        rw [if_pos rfl] at hR
        rw [hR]
        obtain ⟨hst, hcp⟩ := HB.out
        generalize hwf : ((((w10.setCell ⟨p, 1, none⟩ (.int .u64 N1)).setCell ⟨p, 2, none⟩ (.int .u64 g1)).setCell ⟨p, 3, none⟩ (.int .i64 K1)).setCell ⟨p, 4, none⟩ (.pointer (some ⟨w4.heap.size, 0, none⟩))).setCell ⟨p, 5, none⟩ (.map (some mn)) = wf at hst hcp ⊢
        have hold : ∀ k, k < w.heap.size → ¬ okd k → k ≠ p → wf.heap[k]? = w.heap[k]? := fun k hk h1 h2 => (hcp.block k (Nat.lt_of_lt_of_le hk hCa.size) h2).trans (hCa.block k hk (fun e => e.elim h1 h2))
        have hokp := h.okp
        have hszf := hcp.size
        have hszW : W.heap.size ≤ w10.heap.size := hC10.size
        have hszA : w.heap.size ≤ w10.heap.size := hCa.size
        have hszB := hB8.size
        refine ⟨rfl, ⟨_, fun k => (ok k ∨ okn k ∨ k = mn) ∨ k = w4.heap.size, hP10.step (fun k hk hlt => hcp.block k hlt (fun e => hk.elim (fun hk => hk.1.elim (fun hk => hap k hk (.inl (e ▸ hokp))) (fun hk => by omega)) (fun hk => by simp at hk; omega))), ⟨okn, w4.heap.size, mn, dv, ?_⟩, ?_, fun k hk => hk.elim (fun hk => hk.1.elim .inl (fun e => .inr (by omega))) (fun e => .inr (by simp at e; omega)), fun k hk => hk.elim .inl (fun e => .inr (by omega))⟩, hCa.then_ hcp (fun k hk => .inl (.inr hk))⟩
        · refine ⟨.inl (.inl hokp), .inr rfl, .inl (.inr (.inr rfl)), fun k hk => ⟨.inl (.inr (.inl hk)), by have := hon k hk; omega, (hnr k hk).1, by have := hon k hk; omega, (hnr k hk).2⟩, hst, ?_, ?_, ?_, fun db e => .inl (.inl (h.okd db e))⟩
          · exact HH.out.step ((hcp.block _ (by omega) (by omega)).trans (hC10.block _ (by omega) (fun e => e.1.elim (fun e => by have := hod _ e; omega) (fun e => by omega))))
          · exact hn.step (hold mn hnlt (fun e => hap mn e (.inr (.inr rfl))) hmp) (fun k hk hlt => hold k hlt (fun e => hap k e (.inr (.inl hk))) (hnr k hk).1)
          · have hdd := h.dead
            unfold DeadV at hdd ⊢
            split at hdd
            · rename_i hq1
              rw [if_pos hq1]
              obtain ⟨db, x, q1, q2⟩ := hdd
              refine ⟨db, x, q1, (hold db (blk_lt q2) (fun e => hap db e (.inl (h.okd db q1))) (fun e => ?_)).trans q2⟩
              have hb := h.blk
              unfold SBlk at hb
              rw [← e, q2] at hb
              cases hb
            · rename_i hq1
              rw [if_neg hq1]
              exact hdd
        · intro k h1 h2
          rcases h1 with ⟨h1, h1'⟩ | h1
          · rcases h2 with h2 | h2
            · rcases h1 with h1 | h1
              · exact hap k h1 h2
              · rcases h2 with h2 | h2 | h2
                · have := hos k h2; omega
                · have := hon k h2; omega
                · omega
            · rcases h1 with h1 | h1
              · have := hod k h1; omega
              · omega
          · simp at h1
            rcases h2 with (h2 | h2 | h2) | h2
            · have := hos k h2; omega
            · have := hon k h2; omega
            · omega
            · omega
      · have hme := met_err hsto10 hE
        have hE3 : (E2 != 0) = true := by simpa using hE
        refine plan_run_on rfl rfl (fun J hJ => ?_)
        go_simp
        refine hme.mono ?_
        rintro e w11 ⟨rfl, h11, hC11⟩
        refine hJ _ _ _ (fun _ h => h) ⟨h11.blk.c0, (hC11.block _ (blk_lt hx10) (by omega)).trans hx10⟩ ?_
        clear hJ J hme
        apply plan_take rfl rfl
        case hy => (intro w' hS; clear hS; go_simp; try exact rfl)
        go_simp
        refine plan_done ?_
        have HB := hid (And.intro h11 hC11)
        clear h11 hC11 hsto10 hx10 hblkW hxW hs10
        go_wp2_with fail
        go_ret
        obtain ⟨hE0, hsto, hstay, hC⟩ := HS.out
        subst hE0
        obtain ⟨hE2, hD2⟩ := HE.out
        obtain ⟨hod, hon, hos, hap, hnr, hmp, hne⟩ := HZ.out
        obtain ⟨hd, h, hn, hFs, hFe, hBe⟩ := H0.out
        obtain ⟨hP10, hC10⟩ := HF.out
        obtain ⟨hx7, hB8⟩ := HKEEP.out
        have hq := HQ.out
        rw [← HL0.out, ← HNX.out.1] at hq
        rw [← HNX.out.1] at hE2 hD2
        have hR := compactF_done (by rw [hBe]; omega) hg (by rw [HB1.out.1, HB1.out.2.1]; unfold mostN; simp at hN2 hg2; omega) hq hE2 hD2
        rw [HR.out, HNX.out.1] at hR
        have hCa := ((Chg.of_below hB8 (fun k => okd k ∨ k = p)).then_ hC (fun k hk => hk.elim (fun e => .inl (.inl e)) (fun e => .inr (by omega)))).then_ hC10 (fun k hk => hk.1.elim (fun e => .inl (.inl e)) (fun e => .inr (by have := hB8.size; omega)))
        rw [if_neg hE] at hR
        rw [hR]
        obtain ⟨h11, hC11⟩ := HB.out
        have hokp := h.okp
        have hszB := hB8.size
        have hszW : W.heap.size ≤ w10.heap.size := hC10.size
        refine ⟨rfl, ⟨_, orNew ok w10, hP10.bound.step (fun k hk hlt => hC11.block k hlt (fun e => hk.1.elim (fun hk => hk.1.elim (fun hk => hap k hk (.inl (e ▸ hokp))) (fun hk => by omega)) (fun hk => by simp at hk; omega))), ⟨okr, hb, mb, _, h11.withD D2⟩, ?_, fun k hk => hk.1.elim (fun hk => hk.1.elim .inl (fun e => .inr (by omega))) (fun e => .inr (by simp at e; omega)), fun k hk => hk.elim (fun h => .inl (.inl h)) (fun h => .inr (by omega))⟩, hCa.then_ hC11 (fun k hk => .inl (.inr hk))⟩
        intro k h1 h2
        rcases h2 with h2 | h2
        · have := hos k h2
          rcases h1.1 with ⟨h1, _⟩ | h1
          · rcases h1 with h1 | h1
            · exact hap k h1 (.inl h2)
            · omega
          · simp at h1; omega
        · have := h1.2; omega
end Go.Proofs.YticogmpafehomaaGreatDoor

set_option linter.unusedVariables false
set_option linter.unusedSimpArgs false
namespace Go.Proofs.YticogmpafehomaaGreatDoor
open Go.RowKit Go.Maps Go.Proofs.YticogmpafehomaaGreatDoorW.PrintWords Go.Proofs.YticogmpafehomaaGreatDoorW.PrintMore

theorem SM.wf.few {S : SM} (h : S.wf) : S.E.length ≤ 4096 := by
  have h1 := h.fine
  have h2 := h.len
  have := h1.nt; have := h1.ts; have := h1.s
  omega

set_option maxRecDepth 100000 in
set_option maxHeartbeats 8000000 in
theorem change_put {w : World} {okd ok okr okb okv : Nat → Prop} {p pd hb mb ob kc : Nat} {dv : Value} {S : SM} {A Av : Option Addr} {c cv : Nat} {k : ByteArray} {v : List Int} (hd : PDisk w okd pd S.D) (h : PSb w ok okr p pd hb mb dv S) (hwf : S.wf) (hm : Room S.D)
    (hod : ∀ j, okd j → j < w.heap.size) (hos : ∀ j, ok j → j < w.heap.size) (hap : apart okd ok) (hF : RB w okb A (recB k v)) (hob : ∀ j, okb j → j < w.heap.size ∧ ¬ okd j ∧ ¬ ok j) (hc : ((recB k v)).length ≤ c) (hk : keyedB k) (hv : Bytes v) (hvl : v.length ≤ 131072)
    (ho : w.cell? ⟨ob, 0, none⟩ = some (.slice Av v.length cv)) (hcv : v.length ≤ cv) (hV : RB w okv Av v) (hvn : ∀ j, okv j → j < w.heap.size ∧ ¬ okd j ∧ ¬ ok j) (hon : ¬ okd ob ∧ ¬ ok ob)
    (hkc : w.cell? ⟨kc, 0, none⟩ = some (.string k)) (hkn : ¬ okd kc ∧ ¬ ok kc) :
    Calls Tryz.prog 59 #[.pointer (some ⟨p, 0, none⟩), .int .i64 1, .slice A ((recB k v)).length c, .func (.func 61) #[] #[.pointer (some ⟨ob, 0, none⟩), .pointer (some ⟨kc, 0, none⟩)]] w fun e w' => e = .returned (.int .i64 (changeF S 1 (recB k v) (putE k v S.E)).1) ∧
      SysOut w w' okd (fun j => ok j ∨ okv j) p pd (changeF S 1 (recB k v) (putE k v S.E)).2 ∧ Chg (fun j => okd j ∨ ok j) w w' := by
  obtain ⟨R, hR⟩ : ∃ R, changeF S 1 (recB k v) (putE k v S.E) = R := ⟨_, rfl⟩
  rw [hR]
  have HR := hid hR
  clear hR
  have hplt := h.blk.lt
  have hblk := h.blk
  have hfn := hwf.fine
  have hfew : Few S.E := fun _ => by have := hwf.few; omega
  have hbl : Unit → ((recB k v)).length ≤ 140737488355328 := fun _ => by rw [recB_len]; have := hk.2; omega
  have hbb : Bytes (recB k v) := recB_bytes hv
  have hft := fits_any h.log ⟨Int.le_trans hfn.n0 hfn.nt, hfn.ts, hfn.s⟩ (((recB k v)).length : Int) (by have := hbl (); omega)
  obtain ⟨b, hbq⟩ : ∃ b, fitsB S.H ((recB k v)).length = b := ⟨_, rfl⟩
  rw [hbq] at hft
  have hklt := World.block_lt_of_cell? w _ hkc
  have HK := hid (And.intro hd (And.intro h (And.intro hod (And.intro hos (And.intro hap (And.intro hF (And.intro hob (And.intro hc (And.intro hkc (And.intro hkn (And.intro hbq (And.intro hwf (And.intro ho (And.intro hcv (And.intro hV (And.intro hvn hon))))))))))))))))
  have c4 := hblk.c4
  clear hd h hod hos hap hF hob hc hkc hkn hbq hwf ho hcv hV hvn hon
  go_enter Tryz.func59, Tryz.ntmps59
  go_wp2_with fail
  refine hft.mono ?_
  rintro e w1 ⟨rfl, hB1⟩
  obtain ⟨hd, h, hod, hos, hap, hF, hob, hc, hkc, hkn, hbq, hwf, ho, hcv, hV, hvn, hon⟩ := HK.out
  have hd1 := hd.step (w1 := w1) (fun j _ hj => hB1.block j hj)
  have h1 := h.step (w1 := w1) (fun j _ hj => hB1.block j hj)
  have hF1 := RB_below hF hB1
  have hs1 := hB1.size
  have hne := h.ne
  cases b with
  | true =>
    have hC0 : hputC S.H 1 ((recB k v)).length = 0 := by
      unfold hputC
      have hf2 : 0 < need (((recB k v)).length : Int) ∧ need (((recB k v)).length : Int) ≤ S.H.size - S.H.tail := by unfold fitsB at hbq; exact of_decide_eq_true hbq
      rw [if_neg (by omega), if_neg (by intro hh; unfold need at hf2; rw [if_pos (by omega)] at hf2; omega), hbq]
      rfl
    have hput := hput_any hd1.bound h1.log hfn hF1 (fun j hj hj2 => (hob j hj).2.1 hj2.1) (fun e => hap hb e.1 h.okh) hc hbb (hbl ()) (putsF_room (H := S.H) (l := []) (by simp) (hm ())) 1
    have hblk1 := h1.blk
    have c4' := hblk1.c4
    generalize hq : hputF S.D S.H 1 (recB k v) = q at hput
    have HQ := hid (And.intro hq hbq)
    obtain ⟨E, D', H'⟩ := q
    dsimp only at hput
    clear hd h hod hos hap hF hob hc hkc hkn hbq hwf hd1 h1 hF1 hblk1 hq hft c4 ho hcv hV hvn hon
    have HB1 := hid hB1
    clear hB1
    go_wp2_with fail
    refine hput.mono ?_
    rintro e w2 ⟨rfl, hP2, hh2, hC2⟩
    clear hput
    obtain ⟨hd, h, hod, hos, hap, hF, hob, hc, hkc, hkn, hbq, hwf, ho, hcv, hV, hvn, hon⟩ := HK.out
    have hC3 : Chg (fun j => okd j ∨ j = hb) w w2 := (Chg.of_below HB1.out (fun j => okd j ∨ j = hb)).then_ hC2 (fun j hj => hj.elim (fun hj => .inl (.inl hj.1)) (fun hj => .inl (.inr hj)))
    have hstay : ∀ j, j < w.heap.size → ¬ okd j → j ≠ hb → w2.heap[j]? = w.heap[j]? := fun j h1 h2 h3 => hC3.block j h1 (fun e => e.elim h2 h3)
    have hs2 := hC3.size
    have h2 : PSb w2 ok okr p pd hb mb dv { S with D := D', H := H' } :=
      ⟨h.okp, h.okh, h.okm, fun j hj => by have := h.rows j hj; exact ⟨this.1, Nat.lt_of_lt_of_le this.2.1 hs2, this.2.2⟩, h.blk.step (hstay p hplt (fun e => hap p e h.okp) hne.1), hh2,
        h.ent.step (hstay mb h.ent.lt (fun e => hap mb e h.okm) hne.2.2.symm) (fun j hj hlt => hstay j hlt (fun e => hap j e (h.rows j hj).1) (h.rows j hj).2.2.2.1), by
          have hdd := h.dead
          unfold DeadV at hdd ⊢
          split at hdd
          · rename_i hq1
            rw [if_pos hq1]
            obtain ⟨db, x, q1, q2⟩ := hdd
            refine ⟨db, x, q1, (hstay db (blk_lt q2) (fun e => hap db e (h.okd db q1)) (fun e => ?_)).trans q2⟩
            have hl := h.log
            unfold HBlk at hl
            rw [← e, q2] at hl
            cases hl
          · rename_i hq1
            rw [if_neg hq1]
            exact hdd, h.okd⟩
    have hP2' : PDisk w2 (fun j => orNew okd w j ∧ j < w2.heap.size) pd D' := (hP2.mono (ok' := orNew okd w) (fun j hj => hj.elim (fun hj => .inl hj.1) (fun hj => .inr (Nat.le_trans hs1 hj)))).bound
    by_cases hE : E = 0
    · subst hE
      have hent := h2.ent
      have hcl := put_clos (w := w2) (okv := okv) (A := Av) (c := cv) hent hwf.sorted (hfew ()) (by have := hk.2; omega) (fun j hj => (h.rows j hj).2.2.2.2) (fun j hj e => (hvn j hj).2.2 (e ▸ h.okm)) (Kd.F_step hV (fun j hj hlt => hstay j hlt (hvn j hj).2.1 (fun e => (hvn j hj).2.2 (e ▸ h.okh)))) hcv (hC3.cell_ ho (fun e => e.elim hon.1 (fun e => hon.2 ((show ob = hb from e) ▸ h.okh)))) (hC3.cell_ hkc (fun e => e.elim hkn.1 (fun e => hkn.2 ((show kc = hb from e) ▸ h.okh))))
      have HW := hid (And.intro hP2' (And.intro h2 hC3))
      have c5 := h2.blk.c5
      clear hd h hod hos hap hF hob hc hkc hkn hbq hwf hP2 hh2 hC2 hC3 hstay h2 hP2' hent c4' ho hcv hV hvn hon
      go_wp2_with fail
      refine (met_ok _).mono ?_
      rintro e w3 ⟨rfl, rfl⟩
      go_wp2_with fail
      refine hcl.mono ?_
      rintro e w3 ⟨rfl, hE3, hg3⟩
      have HX := hid (And.intro hE3 hg3)
      clear hE3 hg3 hcl
      go_wp2
      go_ret
      obtain ⟨hE3, hg3⟩ := HX.out
      obtain ⟨hP2, h2, hC3⟩ := HW.out
      obtain ⟨hd, h, hod, hos, hap, hF, hob, hc, hkc, hkn, hbq, hwf, ho, hcv, hV, hvn, hon⟩ := HK.out
      have hR : R = (0, { S with D := D', H := H', E := (putE k v S.E) }) := by
        rw [← HR.out]
        unfold changeF
        rw [if_pos HQ.out.2, HQ.out.1]
        dsimp only
        rw [if_pos rfl]
      rw [hR]
      have hmlt := h2.ent.lt
      have hC4 : Chg (fun j => j = mb) w2 w3 := ⟨hg3.os, hg3.tape, hg3.output, hg3.size, fun i hi hn => hg3.block i hi (fun e => hn (by injection e))⟩
      have hst : ∀ j, j < w2.heap.size → j ≠ mb → w3.heap[j]? = w2.heap[j]? := fun j h1 h2 => hC4.block j h1 h2
      refine ⟨rfl, ⟨_, (fun j => ok j ∨ okv j), hP2.step (fun j hj hlt => hst j hlt (fun e => by subst e; exact hj.1.elim (fun e => hap _ e h.okm) (fun e => by have := h.ent.lt; omega))), ⟨fun j => okr j ∨ okv j, hb, mb, dv, ?_⟩, fun j h1 h2 => h1.1.elim (fun h1 => h2.elim (fun h2 => hap j h1 h2) (fun h2 => (hvn j h2).2.1 h1)) (fun h1 => h2.elim (fun h2 => by have := hos j h2; omega) (fun h2 => by have := (hvn j h2).1; omega)), fun j hj => hj.1, fun j hj => .inl hj⟩, (hC3.mono (S2 := fun j => okd j ∨ ok j) (fun j hj => hj.elim .inl (fun e => .inr (e ▸ h.okh)))).then_ hC4 (fun j hj => .inl (.inr (hj ▸ h.okm)))⟩
      refine ⟨.inl h.okp, .inl h.okh, .inl h.okm, fun j hj => hj.elim (fun hj => by have := h.rows j hj; exact ⟨.inl this.1, by have := hC4.size; omega, this.2.2⟩) (fun hj => ⟨.inr hj, by have := (hvn j hj).1; have := hC4.size; omega, fun e => (hvn j hj).2.2 (e ▸ h.okp), fun e => (hvn j hj).2.2 (e ▸ h.okh), fun e => (hvn j hj).2.2 (e ▸ h.okm)⟩), h2.blk.step (hst p (by omega) hne.2.1), h2.log.step (hst hb h2.log.lt hne.2.2), hE3, ?_, fun db e => .inl (h.okd db e)⟩
      have hdd := h2.dead
      unfold DeadV at hdd ⊢
      split at hdd
      · rename_i hq1
        rw [if_pos hq1]
        obtain ⟨db, x, q1, q2⟩ := hdd
        refine ⟨db, x, q1, (hst db (blk_lt q2) (fun e => ?_)).trans q2⟩
        obtain ⟨f, ⟨D, ⟨es, clock, h3, _⟩, _⟩, _⟩ := h2.ent
        rw [← e, q2] at h3
        cases h3
      · rename_i hq1
        rw [if_neg hq1]
        exact hdd
    · have hme := met_err h2 hE
      have hE2 : (E != 0) = true := by simpa using hE
      have HW := hid (And.intro hP2' (And.intro h2 hC3))
      clear hd h hod hos hap hF hob hc hkc hkn hbq hwf hP2 hh2 hC2 hC3 hstay h2 hP2' c4' ho hcv hV hvn hon
      go_wp2_with fail
      refine hme.mono ?_
      rintro e w3 ⟨rfl, h3, hC4⟩
      have HX := hid (And.intro h3 hC4)
      clear h3 hC4 hme
      go_wp2
      go_ret
      obtain ⟨h3, hC4⟩ := HX.out
      obtain ⟨hP2, h2, hC3⟩ := HW.out
      obtain ⟨hd, h, hod, hos, hap, hF, hob, hc, hkc, hkn, hbq, hwf, ho, hcv, hV, hvn, hon⟩ := HK.out
      have hR : R = (E, { S with D := D', H := H', dead := true }) := by
        rw [← HR.out]
        unfold changeF
        rw [if_pos HQ.out.2, HQ.out.1]
        dsimp only
        rw [if_neg hE]
      rw [hR]
      refine ⟨rfl, ⟨_, orNew ok w2, hP2.step (fun j hj hlt => hC4.block j hlt (fun e => by subst e; exact hj.1.elim (fun e => hap _ e h.okp) (fun e => by omega))), ⟨okr, hb, mb, _, h3⟩, fun j h1 h2 => h1.1.elim (fun h1 => h2.elim (fun h2 => hap j h1 h2) (fun h2 => by have := hod j h1; omega)) (fun h1' => h2.elim (fun h2 => by have := hos j h2; omega) (fun h2 => by have := h1.2; omega)), fun j hj => hj.1, fun j hj => hj.elim (fun hj => .inl (.inl hj)) (fun hj => .inr (by omega))⟩, (hC3.mono (S2 := fun j => okd j ∨ ok j) (fun j hj => hj.elim .inl (fun e => .inr (e ▸ h.okh)))).then_ hC4 (fun j hj => .inl (.inr (hj ▸ h.okp)))⟩
  | false =>
    have hcl := mclone_any h1.ent
    have hblk1 := h1.blk
    have c5 := hblk1.c5
    clear hd h hod hos hap hF hob hc hkc hkn hbq hwf hd1 h1 hF1 hblk1 hft c4 ho hcv hV hvn hon
    have HB1 := hid hB1
    clear hB1
    go_wp2_with fail
    refine hcl.mono ?_
    rintro e w2 ⟨rfl, hE2, hB2⟩
    clear hcl
    obtain ⟨hd, h, hod, hos, hap, hF, hob, hc, hkc, hkn, hbq, hwf, ho, hcv, hV, hvn, hon⟩ := HK.out
    have hB3 := below_step HB1.out hB2
    have hs2 := hB2.size
    have hm2 := hE2.lt
    have hcl := put_clos (w := w2) (okv := okv) (A := Av) (c := cv) hE2 hwf.sorted (hfew ()) (by have := hk.2; omega) (fun j hj => by have := (h.rows j hj).2.1; omega) (fun j hj => by have := (hvn j hj).1; omega) (RB_below hV hB3) hcv ((hB3.cell (p := ⟨ob, 0, none⟩) (World.block_lt_of_cell? w _ ho)).trans ho) ((hB3.cell (p := ⟨kc, 0, none⟩) hklt).trans hkc)
    have HX := hid (And.intro hB3 hB2)
    clear hd h hod hos hap hF hob hc hkc hkn hbq hwf hE2 hB2 hB3 c5 ho hcv hV hvn hon
    go_wp2_with fail
    refine hcl.mono ?_
    rintro e w3 ⟨rfl, hE3, hg3⟩
    clear hcl
    obtain ⟨hd, h, hod, hos, hap, hF, hob, hc, hkc, hkn, hbq, hwf, ho, hcv, hV, hvn, hon⟩ := HK.out
    obtain ⟨hB3, hB2⟩ := HX.out
    have hB4 : Below w.heap.size w w3 := hB3.grown hg3 hB3.size (fun j hj => by injection hj with hj; omega)
    have hs4 := hB4.size
    have hco := compact_any (w := w3) (okn := fun j => okr j ∨ okv j) (mn := w1.heap.size) (hd.step (fun j _ hj => hB4.block j hj)) (h.step (fun j _ hj => hB4.block j hj)) hwf hE3 (hwf.sorted.put k v) (fun x hx => (mem_putE hx).elim (fun e => by subst e; exact ⟨hk, hv, hvl⟩) (hwf.ent x)) (fun _ => by have := hwf.few; have := putE_len k v S.E; omega) (fun j hj => Nat.lt_of_lt_of_le (hod j hj) hs4) (fun j hj => hj.elim (fun hj => Nat.lt_of_lt_of_le (h.rows j hj).2.1 hs4) (fun hj => Nat.lt_of_lt_of_le (hvn j hj).1 hs4)) (fun j hj => Nat.lt_of_lt_of_le (hos j hj) hs4)
      (fun j h1 h2 => h2.elim (fun h2 => hap j h1 h2) (fun h2 => h2.elim (fun h2 => h2.elim (fun h2 => hap j h1 (h.rows j h2).1) (fun h2 => (hvn j h2).2.1 h1)) (fun h2 => by have := hod j h1; omega))) (fun j hj => hj.elim (fun hj => ⟨(h.rows j hj).2.2.1, by have := (h.rows j hj).2.1; omega⟩) (fun hj => ⟨fun e => (hvn j hj).2.2 (e ▸ h.okp), by have := (hvn j hj).1; omega⟩)) (by omega) hm
    clear hd h hod hos hap hF hob hc hkc hkn hbq hwf hE3 hg3 hB2 hB3 ho hcv hV hvn hon
    have HY := hid hB4
    clear hB4
    go_wp2_with fail
    refine hco.mono ?_
    rintro e w4 ⟨rfl, hS4, hC4⟩
    have HZ := hid (And.intro hS4 hC4)
    clear hS4 hC4 hco
    go_wp2
    go_ret
    obtain ⟨hS4, hC4⟩ := HZ.out
    obtain ⟨hd, h, hod, hos, hap, hF, hob, hc, hkc, hkn, hbq, hwf, ho, hcv, hV, hvn, hon⟩ := HK.out
    have hR : R = compactF S (putE k v S.E) := by
      rw [← HR.out]
      unfold changeF
      rw [if_neg (by rw [hbq]; simp)]
    rw [hR]
    obtain ⟨okd', okS', k1, k2, k3, k4, k5⟩ := hS4
    have hC5 := (Chg.of_below HY.out (fun j => okd j ∨ j = p)).then_ hC4 (fun j hj => .inl hj)
    exact ⟨rfl, ⟨okd', okS', k1, k2, k3, fun j hj => (k4 j hj).elim .inl (fun e => .inr (Nat.le_trans hs4 e)), fun j hj => (k5 j hj).elim (fun hj => hj.elim (fun hj => .inl (.inl hj)) (fun hj => hj.elim (fun hj => hj.elim (fun hj => .inl (.inl (h.rows j hj).1)) (fun hj => .inl (.inr hj))) (fun e => .inr (by have := HB1.out.size; omega)))) (fun e => .inr (Nat.le_trans hs4 e))⟩, hC5.mono (fun j hj => hj.elim .inl (fun e => .inr (e ▸ h.okp)))⟩

end Go.Proofs.YticogmpafehomaaGreatDoor

set_option linter.unusedVariables false
set_option linter.unusedSimpArgs false
namespace Go.Proofs.YticogmpafehomaaGreatDoor
open Go.RowKit Go.Proofs.YticogmpafehomaaGreatDoorW.PrintWords Go.Proofs.YticogmpafehomaaGreatDoorW.PrintMore

theorem puts_wf (b0 : Int) : ∀ (l : List (Int × List Int)) (D : DM), D.wf → (∀ x ∈ l, Bytes x.2) → (puts b0 D l).1.wf ∧ (puts b0 D l).1.n = D.n
  | [], D, h, _ => ⟨h, rfl⟩
  | x :: l, D, h, hb => by
    have h1 := writeD_wf h (hb x (List.mem_cons_self ..)) (b0 + x.1)
    have h2 := writeD_n h (b0 + x.1) x.2
    simp only [puts]
    split
    · obtain ⟨k1, k2⟩ := puts_wf b0 l (D.writeD (b0 + x.1) x.2) h1 (fun y hy => hb y (List.mem_cons_of_mem _ hy))
      exact ⟨k1, k2.trans h2⟩
    · exact ⟨h1, h2⟩
theorem order_bytes {r : SR} (hr : r.right) : ∀ x ∈ order r, Bytes x.2 := by
  intro x hx
  unfold order at hx
  rcases List.mem_append.1 hx with h | h
  · obtain ⟨i, _, rfl⟩ := List.mem_map.1 h
    exact bodyB_bytes hr _
  · rw [List.mem_singleton.1 h]
    exact headB_bytes hr
theorem sealW_wf {D : DM} (h : D.wf) {base : Int} {r : SR} (hg : 0 ≤ r.gen ∧ r.gen < 18446744073709551616) (hb : Bytes r.bytes) : (D.sealW base r).1.wf ∧ (D.sealW base r).1.n = D.n := by
  unfold DM.sealW
  by_cases h1 : sealE r = 0
  · rw [if_neg (by simp [h1])]
    split
    · exact ⟨h, rfl⟩
    · exact puts_wf _ _ _ h (order_bytes (right_of h1 hg hb))
  · rw [if_pos h1]
    exact ⟨h, rfl⟩
theorem hputF_wf {D : DM} {H : HM} (h : D.wf) (hf : H.fine) (kind : Int) {bs : List Int} (hb : Bytes bs) : (hputF D H kind bs).2.1.wf ∧ (hputF D H kind bs).2.1.n = D.n := by
  unfold hputF
  split
  · exact sealW_wf h hf.g hb
  · exact ⟨h, rfl⟩
theorem putsF_wf : ∀ (l : Ent) (D : DM) (H : HM), D.wf → H.fine → (∀ x ∈ l, Bytes x.2) → (putsF D H l).2.1.wf ∧ (putsF D H l).2.1.n = D.n
  | [], D, H, h, _, _ => ⟨h, rfl⟩
  | y :: l, D, H, h, hf, hb => by
    obtain ⟨h1, h2⟩ := hputF_wf h hf 1 (recB_bytes (k := y.1) (hb y (List.mem_cons_self ..)))
    have h3 := (hputF_fine (D := D) hf 1 (recB y.1 y.2)).1
    simp only [putsF]
    split
    · obtain ⟨k1, k2⟩ := putsF_wf l _ _ h1 h3 (fun x hx => hb x (List.mem_cons_of_mem _ hx))
      exact ⟨k1, k2.trans h2⟩
    · exact ⟨h1, h2⟩
theorem SM.wf.kill {S : SM} (h : S.wf) : ({ S with dead := true } : SM).wf := ⟨h.d, h.m, h.base, h.size, h.gen, h.n0, h.nt, h.ts, h.len, h.sorted, h.ent⟩
theorem SM.wf.disk {S : SM} (h : S.wf) {D : DM} (hD : D.wf) (hn : D.n = S.D.n) : ({ S with D := D } : SM).wf := ⟨hD, h.m, by rw [baseM_n hn]; exact h.base, by rw [sizeM_n hn]; exact h.size, h.gen, h.n0, h.nt, h.ts, h.len, h.sorted, h.ent⟩
/-- Entries that may be. -/
structure EntOK (F : Ent) : Prop where
  sorted : SortedE F
  ent : ∀ x ∈ F, keyedB x.1 ∧ Bytes x.2 ∧ x.2.length ≤ 131072
theorem next_ok {S : SM} (h : S.wf) (hm : ¬ (S.m.N = mostN ∨ stG S.D = mostN)) : S.next.ok := by
  have h1 := h.m
  have h2 := stG_bnd S.D
  obtain ⟨a1, a2, a3, a4, a5, a6⟩ := h1
  unfold SM.next MM.ok
  dsimp only
  omega
theorem compactF_wf {S : SM} (h : S.wf) {F : Ent} (hF : EntOK F) : (compactF S F).2.wf := by
  unfold compactF
  split
  · exact h
  · split
    · exact h.kill
    · split
      · exact h
      · rename_i hmx
        have hok := next_ok h hmx
        have hf0 := log0_fine h.d hok
        obtain ⟨w1, w2⟩ := putsF_wf F S.D (log0 S.D S.next) h.d hf0 (fun x hx => (hF.ent x hx).2.1)
        obtain ⟨f1, f2, f3, f4, f5, _⟩ := putsF_fine F S.D (log0 S.D S.next) hf0
        have v1 := flip_wf w1 hok
        have v2 := (flip_n w1 S.next).trans w2
        split
        · rename_i he
          split
          · refine ⟨v1, hok, ?_, ?_, ?_, f1.n0, f1.nt, f1.ts, ?_, hF.sorted, hF.ent⟩
            · dsimp only; rw [f2, baseM_n v2]; rfl
            · dsimp only; rw [f3, sizeM_n v2]; rfl
            · dsimp only; rw [f4]; rfl
            · dsimp only; rw [f5 he]; simp [log0]
          · exact (h.disk v1 v2).kill
        · exact (h.disk w1 w2).kill
theorem changeF_wf {S : SM} (h : S.wf) (kind : Int) {bs : List Int} (hb : Bytes bs) {F : Ent} (hF : EntOK F) (hl : F.length ≤ S.E.length + 1) : (changeF S kind bs F).2.wf := by
  have hf := h.fine
  unfold changeF
  split
  · obtain ⟨w1, w2⟩ := hputF_wf h.d hf kind hb
    obtain ⟨f1, f2, f3, f4, f5, f6, f7⟩ := hputF_fine (D := S.D) hf kind bs
    split
    · rename_i he
      refine ⟨w1, h.m, ?_, ?_, ?_, f1.n0, f1.nt, f1.ts, ?_, hF.sorted, hF.ent⟩
      · dsimp only; rw [f2, baseM_n w2]; exact h.base
      · dsimp only; rw [f3, sizeM_n w2]; exact h.size
      · dsimp only; rw [f4]; exact h.gen
      · dsimp only; rw [f5 he]; have := h.len; omega
    · rename_i he
      have e := f7 he
      refine ⟨w1, h.m, ?_, ?_, ?_, f1.n0, f1.nt, f1.ts, ?_, h.sorted, h.ent⟩
      · dsimp only; rw [f2, baseM_n w2]; exact h.base
      · dsimp only; rw [f3, sizeM_n w2]; exact h.size
      · dsimp only; rw [f4]; exact h.gen
      · dsimp only; rw [e]; exact h.len
  · exact compactF_wf h hF
theorem SM.wf.entOK {S : SM} (h : S.wf) : EntOK S.E := ⟨h.sorted, h.ent⟩
theorem EntOK.put {F : Ent} (h : EntOK F) {k : ByteArray} {v : List Int} (hk : keyedB k) (hv : Bytes v) (hl : v.length ≤ 131072) : EntOK (putE k v F) :=
  ⟨h.sorted.put k v, fun x hx => (mem_putE hx).elim (fun e => by subst e; exact ⟨hk, hv, hl⟩) (h.ent x)⟩
theorem putF_wf {S : SM} (h : S.wf) (k : ByteArray) {v : List Int} (hv : Bytes v) : (putF S k v).2.wf := by
  unfold putF
  split
  · exact h
  · split
    · exact h
    · rename_i hk
      have hk := Classical.not_not.1 hk
      split
      · exact h
      · split
        · exact h
        · exact changeF_wf h 1 (recB_bytes hv) (h.entOK.put hk hv (by omega)) (putE_len k v S.E)
theorem formatF_wf {D D' : DM} {E : Int} {S : SM} (h : D.wf) (hf : formatF D = (E, D', some S)) : S.wf ∧ S.D = D' ∧ S.D.n = D.n ∧ E = 0 ∧ S.dead = false ∧ S.E = [] := by
  unfold formatF at hf
  split at hf
  · cases hf
  · split at hf
    · cases hf
    · rename_i hmx
      have hp := pick_N D
      have hg := stG_bnd D
      have hok : (⟨(pickM D).N + 1, stG D + 1, 0⟩ : MM).ok := by unfold MM.ok; dsimp only; omega
      have v1 := flip_wf h hok
      have v2 := flip_n h ⟨(pickM D).N + 1, stG D + 1, 0⟩
      split at hf
      · injection hf with e1 hf
        injection hf with e2 hf
        injection hf with hf
        subst e1 e2 hf
        have hf0 := log0_fine h hok
        refine ⟨⟨v1, hok, ?_, ?_, rfl, hf0.n0, hf0.nt, hf0.ts, by simp [log0], by unfold SortedE Sorted keysE; simp, fun x hx => by cases hx⟩, rfl, v2, rfl, rfl, rfl⟩
        · dsimp only; rw [baseM_n v2]; rfl
        · dsimp only; rw [sizeM_n v2]; rfl
      · cases hf
end Go.Proofs.YticogmpafehomaaGreatDoor

set_option linter.unusedVariables false
set_option linter.unusedSimpArgs false
namespace Go.Proofs.YticogmpafehomaaGreatDoor
open Go.RowKit Go.Proofs.YticogmpafehomaaGreatDoorW.PrintWords Go.Proofs.YticogmpafehomaaGreatDoorW.PrintMore

def kA : ByteArray := ⟨#[97]⟩
def kB : ByteArray := ⟨#[98]⟩
def orS : Option SM → SM
  | some S => S
  | none => ⟨DM.new 16, ⟨0, 0, 0⟩, ⟨0, 0, 0, 0, 0⟩, [], true⟩
def live0 : SM := orS (formatF (DM.new 16)).2.2
def liveS : Nat → SM
  | 0 => live0
  | i + 1 => (putF (liveS i) kA [i, 0, 0]).2
def Z300 : List Int := List.replicate 300 0
set_option maxRecDepth 100000 in
theorem live_f0 : (formatF (DM.new 16)).1 = 0 ∧ (formatF (DM.new 16)).2.2.isSome = true ∧ sizeM live0.D = 7 ∧ live0.dead = false ∧ live0.D.ws.length ≤ 100 := by decide +kernel
set_option maxRecDepth 100000 in
theorem live_f1 : ∀ i, i < 8 → (putF (liveS i) kA [(i : Nat), 0, 0]).1 = 0 ∧ (liveS i).dead = false ∧ (liveS i).D.ws.length ≤ 100 := by decide +kernel
set_option maxRecDepth 100000 in
theorem live_f2 : (liveS 8).dead = false ∧ (liveS 8).D.ws.length ≤ 100 ∧ (liveS 8).m.N = 2 ∧ (liveS 8).m.G = 2 ∧ (liveS 8).m.K = 1 ∧ look (liveS 8).E kA = some [7, 0, 0] ∧ (liveS 8).H.tail = 1 ∧ (putF (liveS 8) kB Z300).1 = 63 := by decide +kernel
end Go.Proofs.YticogmpafehomaaGreatDoor

set_option linter.unusedVariables false
set_option linter.unusedSimpArgs false
namespace Go.Proofs.YticogmpafehomaaGreatDoor
open Go.RowKit Go.Maps Go.Proofs.YticogmpafehomaaGreatDoorW.PrintWords Go.Proofs.YticogmpafehomaaGreatDoorW.PrintMore

theorem SysOut.same {w w' : World} {okd ok : Nat → Prop} {p pd : Nat} {S : SM} (hd : PDisk w okd pd S.D) (h : PSto w ok p pd S) (hap : apart okd ok) (hB : Below w.heap.size w w') : SysOut w w' okd ok p pd S :=
  ⟨okd, ok, hd.step (fun j _ hj => hB.block j hj), h.below hB, hap, fun j hj => .inl hj, fun j hj => .inl hj⟩
theorem SysOut.later {w w1 w2 : World} {okd ok ok' : Nat → Prop} {p pd : Nat} {S : SM} (h : SysOut w1 w2 okd ok' p pd S) (hs : w.heap.size ≤ w1.heap.size) (ho : ∀ j, ok' j → orNew ok w j) : SysOut w w2 okd ok p pd S := by
  obtain ⟨a, b, h1, h2, h3, h4, h5⟩ := h
  exact ⟨a, b, h1, h2, h3, fun j hj => (h4 j hj).elim .inl (fun e => .inr (Nat.le_trans hs e)), fun j hj => (h5 j hj).elim (ho j) (fun e => .inr (Nat.le_trans hs e))⟩
set_option maxRecDepth 100000 in
set_option maxHeartbeats 8000000 in
theorem sput_alive {w : World} {okd ok okb : Nat → Prop} {p pd : Nat} {S : SM} {A : Option Addr} {c : Nat} {k : ByteArray} {v : List Int} (hd : PDisk w okd pd S.D) (h : PSto w ok p pd S) (hwf : S.wf) (hm : Room S.D) (hdead : S.dead = false)
    (hod : ∀ j, okd j → j < w.heap.size) (hos : ∀ j, ok j → j < w.heap.size) (hap : apart okd ok) (hF : RB w okb A v) (hc : v.length ≤ c) (hv : Bytes v) (hks : k.size ≤ 9223372036854775807) :
    Calls Tryz.prog 22 #[.pointer (some ⟨p, 0, none⟩), .string k, .slice A v.length c] w fun e w' => e = .returned (.int .i64 (putF S k v).1) ∧ SysOut w w' okd ok p pd (putF S k v).2 ∧ Chg (fun j => okd j ∨ ok j) w w' := by
  obtain ⟨R, hR⟩ : ∃ R, putF S k v = R := ⟨_, rfl⟩
  rw [hR]
  have HR := hid hR
  clear hR
  have hlm := RB_len hF
  have hB0 := below_alloc (Below.refl w.heap.size w) (.cells #[.string k] 9)
  have hsz0 : (w.alloc (.cells #[.string k] 9)).heap.size = w.heap.size + 1 := World.size_alloc _ _
  have hmay := may_alive (h.below hB0) hdead k
  have hk0 := heap_alloc_new w (.cells #[.string k] 9)
  have H0 := hid (And.intro hd (And.intro h (And.intro hod (And.intro hos (And.intro hap (And.intro hF (And.intro hc (And.intro hv hwf))))))))
  clear hd h hod hos hap hF hc hv hwf
  go_enter Tryz.func22, Tryz.ntmps22
  go_wp2_with fail
  refine hmay.mono ?_
  rintro e w1 ⟨rfl, hB1⟩
  have hB2 := below_step hB0 hB1
  have hk1 := (hB1.block _ (blk_lt hk0)).trans hk0
  have kc := cell_of_row _ _ 0 _ _ _ hk1
  simp at kc
  clear hmay hB0 hB1 hk0
  by_cases hkey : keyedB k
  · rw [if_pos hkey]
    have hk40 := hkey.2
    have us : IntKind.i64.wrap (131064 - (k.size : Int)) = 131064 - k.size := by rw [IntKind.wrap_i64]; omega
    by_cases hbig : 131064 - (k.size : Int) < (v.length : Int)
    · clear hk1
      go_wp2
      go_ret
      obtain ⟨hd, h, hod, hos, hap, hF, hc, hv, hwf⟩ := H0.out
      have hR : R = (3, S) := by
        rw [← HR.out]
        unfold putF
        rw [if_neg (by rw [hdead]; simp), if_neg (fun hh => hh hkey), if_pos (by omega)]
      rw [hR]
      exact ⟨rfl, SysOut.same hd h hap hB2, Chg.of_below hB2 _⟩
    have hfits : Unit → v.length ≤ 131072 := fun _ => by omega
    go_wp2_with fail
    obtain ⟨hd, h, hod, hos, hap, hF, hc, hv, hwf⟩ := H0.out
    obtain ⟨okr, hb, mb, dv, hP⟩ := h.below (w1 := w1.drew) (below_drew hB2)
    have c5 := hP.blk.c5
    obtain ⟨A2, n2, c2, hlk, _, hn2, hnc2, hR2⟩ := hP.ent.look (k := k) hks
    have kcd : w1.drew.cell? ⟨w.heap.size, 0, none⟩ = some (.string k) := kc
    have hcv1 : ∀ W, Below w1.drew.heap.size w1.drew W → (convert 25 9 (.slice A2 n2 c2)).run Tryz.prog W = .ok (.string (strOfNums ((look S.E k).getD []))) W := fun W hW => by
      rw [hn2]
      exact conv_str (Kd.F_now (RB_below hR2 hW))
    have hcv2 : ∀ W, Below w1.drew.heap.size w1.drew W → (convert 25 9 (.slice A v.length c)).run Tryz.prog W = .ok (.string (strOfNums v)) W := fun W hW =>
      conv_str (Kd.F_now (RB_below (RB_below hF (below_drew hB2)) (by exact hW)))
    have hbw : Bytes ((look S.E k).getD []) := by
      cases hl : look S.E k with
      | none => exact Bytes.nil
      | some bs => exact (hwf.ent _ (look_mem hl)).2.1
    have hcmp := toL_str hbw hv
    have hlen2 : Unit → ((look S.E k).getD []).length ≤ 131072 := fun _ => by
      cases hl : look S.E k with
      | none => simp
      | some bs => exact (hwf.ent _ (look_mem hl)).2.2
    have HL := hid (And.intro hn2 hnc2)
    clear hP hR2 hbw hd h hod hos hap hF hc hv hwf hn2 hnc2
    obtain ⟨T1, hT1⟩ : ∃ T, strOfNums ((look S.E k).getD []) = T := ⟨_, rfl⟩
    obtain ⟨T2, hT2⟩ : ∃ T, strOfNums v = T := ⟨_, rfl⟩
    rw [hT1] at hcv1 hcmp
    rw [hT2] at hcv2 hcmp
    clear hT1 hT2
    obtain ⟨q, hq⟩ : ∃ q, decide ((look S.E k).getD [] = v) = q := ⟨_, rfl⟩
    rw [hq] at hcmp
    obtain ⟨is, his⟩ : ∃ is, (look S.E k).isSome = is := ⟨_, rfl⟩
    rw [his] at hlk
    have HQ := hid (And.intro hq his)
    clear hq his
    have e1 := hcv1 _ (Below.refl _ _)
    have e2 := hcv2 _ (Below.refl _ _)
    clear hcv1 hcv2
    refine wp_region_plan [] (.take 0 (.take 1 (.take 2 (.take 3 (.take 4 (.take 5 (.take 6 (.take 7 (.take 8 (.take 9 (.take 10 .done))))))))))) (fun W => W = w1.drew) (by kernel_rfl) (by kernel_rfl) (fun c a d v w h => by cases d <;> exact h) rfl ?_
    iterate 11 (apply plan_take rfl rfl; (case hy => (intro w' hS; subst hS; go_simp; try exact rfl)); go_simp)
    refine plan_done ?_
    have hB3 : Below w.heap.size w w1.drew := below_drew hB2
    generalize w1.drew = w3 at kcd e1 e2 hB3 ⊢
    clear kc hB2 hk1 c5 hlk
    by_cases hsame : is = true ∧ q = true
    · obtain ⟨rfl, rfl⟩ := hsame
      go_wp2
      go_ret
      obtain ⟨hd, h, hod, hos, hap, hF, hc, hv, hwf⟩ := H0.out
      have hls : look S.E k = some v := by
        obtain ⟨h1, h2⟩ := HQ.out
        cases hl : look S.E k with
        | none => rw [hl] at h2; cases h2
        | some bs => rw [hl] at h1; simp at h1; rw [h1]
      have hR : R = (0, S) := by
        rw [← HR.out]
        unfold putF
        rw [if_neg (by rw [hdead]; simp), if_neg (fun hh => hh hkey), if_neg (by omega), if_pos hls]
      rw [hR]
      exact ⟨rfl, SysOut.same hd h hap hB3, Chg.of_below hB3 _⟩
    · have hor : is = false ∨ (is = true ∧ q = false) := by cases is <;> cases q <;> simp_all
      clear hsame
      rcases hor with rfl | ⟨rfl, rfl⟩
      · skip
        have hcl := clone_any (c := c) (Kd.F_now (RB_below H0.out.2.2.2.2.2.1 hB3)) (by have := hfits (); omega)
        go_wp2_with fail
        refine hcl.mono ?_
        rintro e w4 ⟨A4, c4, rfl, hR4, hB4⟩
        have hle4 : v.length ≤ c4 := by
          obtain ⟨_, _, e4, h4, _⟩ := Kd.R_reads hR4
          injection e4 with _ _ e4
          omega
        have hB5 := below_step (below_step hB3 hB4) (below_alloc (Below.refl _ _) (.cells #[.slice A4 v.length c4] 25))
        have ho5 := heap_alloc_new w4 (.cells #[.slice A4 v.length c4] 25)
        have hk5 : (w4.alloc (.cells #[.slice A4 v.length c4] 25)).cell? ⟨w.heap.size, 0, none⟩ = some (.string k) := ((hB4.alloc hB4.size (.cells #[.slice A4 v.length c4] 25)).cell (p := ⟨w.heap.size, 0, none⟩) (World.block_lt_of_cell? w3 _ kcd)).trans kcd
        have hV5 : RB (w4.alloc (.cells #[.slice A4 v.length c4] 25)) (fun j => w3.heap.size ≤ j ∧ j < w4.heap.size) A4 v := RB_below (Kd.F_bound (Kd.R_F hR4)) (below_alloc (Below.refl _ _) _)
        have hsz5 : (w4.alloc (.cells #[.slice A4 v.length c4] 25)).heap.size = w4.heap.size + 1 := World.size_alloc _ _
        have hs3 : w.heap.size ≤ w3.heap.size := hB3.size
        have hs4 : w3.heap.size ≤ w4.heap.size := hB4.size
        have hb4 : w.heap.size < w3.heap.size := World.block_lt_of_cell? w3 _ kcd
        clear hcl hR4 hB4 hB3 e1 e2 kcd
        have HV := hid (And.intro hV5 (And.intro hB5 (And.intro hsz5 (And.intro hle4 (And.intro hs3 (And.intro hs4 hb4))))))
        have hrc := record_any (w := w4.alloc (.cells #[.slice A4 v.length c4] 25)) (c := c4) k hV5 (fun j hj => by omega) (by have := hfits (); have := hkey.2; omega)
        have o0 : (w4.alloc (.cells #[.slice A4 v.length c4] 25)).cell? ⟨w4.heap.size, 0, none⟩ = some (.slice A4 v.length c4) := by rw [cell_of_row _ _ 0 _ _ _ ho5]; rfl
        have HO := hid (And.intro o0 hk5)
        clear hV5 hB5 hsz5 ho5 hle4
        go_wp2_with fail
        generalize w4.alloc (.cells #[.slice A4 v.length c4] 25) = w5 at HV HO hrc o0 hk5 ⊢
        refine hrc.mono ?_
        rintro e w6 ⟨A6, c6, rfl, hR6, hB6⟩
        obtain ⟨hV5, hB5, hsz5, hle4, _, _, _⟩ := HV.out
        obtain ⟨o0', k0'⟩ := HO.out
        obtain ⟨hd, h, hod, hos, hap, hF, hc, hv, hwf⟩ := H0.out
        have hB7 := below_step hB5 hB6
        obtain ⟨okr, hb, mb, dv, hP⟩ := h.below hB7
        have hle6 : (recB k v).length ≤ c6 := by
          obtain ⟨_, _, e6, h6, _⟩ := Kd.R_reads hR6
          injection e6 with _ _ e6
          omega
        have hs6 := hB6.size
        have hch := change_put (w := w6) (ob := w4.heap.size) (kc := w.heap.size) (okv := fun j => w3.heap.size ≤ j ∧ j < w4.heap.size) (Av := A4) (cv := c4) (hd.step (fun j _ hj => hB7.block j hj)) hP hwf hm (fun j hj => by have := hod j hj; omega) (fun j hj => by have := hos j hj; omega) hap
          (Kd.F_bound (Kd.R_F hR6)) (fun j hj => ⟨hj.2, fun e => by have := hod j e; omega, fun e => by have := hos j e; omega⟩) hle6 hkey hv (hfits ()) ((hB6.cell (p := ⟨w4.heap.size, 0, none⟩) (by show w4.heap.size < _; omega)).trans o0') hle4 (RB_below hV5 hB6)
          (fun j hj => ⟨by omega, fun e => by have := hod j e; omega, fun e => by have := hos j e; omega⟩) ⟨fun e => by have := hod _ e; omega, fun e => by have := hos _ e; omega⟩ ((hB6.cell (p := ⟨w.heap.size, 0, none⟩) (by show w.heap.size < _; omega)).trans k0') ⟨fun e => by have := hod _ e; omega, fun e => by have := hos _ e; omega⟩
        have hmf := make_func
        clear hd h hod hos hap hF hc hv hwf hP hR6 hrc hB5 hB6 hV5 hsz5 hle4 hle6 o0' k0'
        have HZ := hid hB7
        clear hB7
        go_wp2_with fail
        refine hch.mono ?_
        rintro e w7 ⟨rfl, hS7, hC7⟩
        have HY := hid (And.intro hS7 hC7)
        clear hS7 hC7 hch
        go_wp2
        go_ret
        obtain ⟨hS7, hC7⟩ := HY.out
        have hR : R = changeF S 1 (recB k v) (putE k v S.E) := by
          rw [← HR.out]
          unfold putF
          rw [if_neg (by rw [hdead]; simp), if_neg (fun hh => hh hkey), if_neg (by omega), if_neg ?_]
          intro hls
          obtain ⟨h1, h2⟩ := HQ.out
          rw [hls] at h1 h2
          simp at h1 h2
        rw [hR]
        refine ⟨rfl, hS7.later (Nat.le_trans HZ.out.size (Nat.le_refl _)) (fun j hj => hj.elim .inl (fun hj => .inr (by omega))), ?_⟩
        exact (Chg.of_below HZ.out (fun j => okd j ∨ ok j)).then_ hC7 (fun j hj => .inl hj)
      · skip
        have hcl := clone_any (c := c) (Kd.F_now (RB_below H0.out.2.2.2.2.2.1 hB3)) (by have := hfits (); omega)
        go_wp2_with fail
        refine hcl.mono ?_
        rintro e w4 ⟨A4, c4, rfl, hR4, hB4⟩
        have hle4 : v.length ≤ c4 := by
          obtain ⟨_, _, e4, h4, _⟩ := Kd.R_reads hR4
          injection e4 with _ _ e4
          omega
        have hB5 := below_step (below_step hB3 hB4) (below_alloc (Below.refl _ _) (.cells #[.slice A4 v.length c4] 25))
        have ho5 := heap_alloc_new w4 (.cells #[.slice A4 v.length c4] 25)
        have hk5 : (w4.alloc (.cells #[.slice A4 v.length c4] 25)).cell? ⟨w.heap.size, 0, none⟩ = some (.string k) := ((hB4.alloc hB4.size (.cells #[.slice A4 v.length c4] 25)).cell (p := ⟨w.heap.size, 0, none⟩) (World.block_lt_of_cell? w3 _ kcd)).trans kcd
        have hV5 : RB (w4.alloc (.cells #[.slice A4 v.length c4] 25)) (fun j => w3.heap.size ≤ j ∧ j < w4.heap.size) A4 v := RB_below (Kd.F_bound (Kd.R_F hR4)) (below_alloc (Below.refl _ _) _)
        have hsz5 : (w4.alloc (.cells #[.slice A4 v.length c4] 25)).heap.size = w4.heap.size + 1 := World.size_alloc _ _
        have hs3 : w.heap.size ≤ w3.heap.size := hB3.size
        have hs4 : w3.heap.size ≤ w4.heap.size := hB4.size
        have hb4 : w.heap.size < w3.heap.size := World.block_lt_of_cell? w3 _ kcd
        clear hcl hR4 hB4 hB3 e1 e2 kcd
        have HV := hid (And.intro hV5 (And.intro hB5 (And.intro hsz5 (And.intro hle4 (And.intro hs3 (And.intro hs4 hb4))))))
        have hrc := record_any (w := w4.alloc (.cells #[.slice A4 v.length c4] 25)) (c := c4) k hV5 (fun j hj => by omega) (by have := hfits (); have := hkey.2; omega)
        have o0 : (w4.alloc (.cells #[.slice A4 v.length c4] 25)).cell? ⟨w4.heap.size, 0, none⟩ = some (.slice A4 v.length c4) := by rw [cell_of_row _ _ 0 _ _ _ ho5]; rfl
        have HO := hid (And.intro o0 hk5)
        clear hV5 hB5 hsz5 ho5 hle4
        go_wp2_with fail
        generalize w4.alloc (.cells #[.slice A4 v.length c4] 25) = w5 at HV HO hrc o0 hk5 ⊢
        refine hrc.mono ?_
        rintro e w6 ⟨A6, c6, rfl, hR6, hB6⟩
        obtain ⟨hV5, hB5, hsz5, hle4, _, _, _⟩ := HV.out
        obtain ⟨o0', k0'⟩ := HO.out
        obtain ⟨hd, h, hod, hos, hap, hF, hc, hv, hwf⟩ := H0.out
        have hB7 := below_step hB5 hB6
        obtain ⟨okr, hb, mb, dv, hP⟩ := h.below hB7
        have hle6 : (recB k v).length ≤ c6 := by
          obtain ⟨_, _, e6, h6, _⟩ := Kd.R_reads hR6
          injection e6 with _ _ e6
          omega
        have hs6 := hB6.size
        have hch := change_put (w := w6) (ob := w4.heap.size) (kc := w.heap.size) (okv := fun j => w3.heap.size ≤ j ∧ j < w4.heap.size) (Av := A4) (cv := c4) (hd.step (fun j _ hj => hB7.block j hj)) hP hwf hm (fun j hj => by have := hod j hj; omega) (fun j hj => by have := hos j hj; omega) hap
          (Kd.F_bound (Kd.R_F hR6)) (fun j hj => ⟨hj.2, fun e => by have := hod j e; omega, fun e => by have := hos j e; omega⟩) hle6 hkey hv (hfits ()) ((hB6.cell (p := ⟨w4.heap.size, 0, none⟩) (by show w4.heap.size < _; omega)).trans o0') hle4 (RB_below hV5 hB6)
          (fun j hj => ⟨by omega, fun e => by have := hod j e; omega, fun e => by have := hos j e; omega⟩) ⟨fun e => by have := hod _ e; omega, fun e => by have := hos _ e; omega⟩ ((hB6.cell (p := ⟨w.heap.size, 0, none⟩) (by show w.heap.size < _; omega)).trans k0') ⟨fun e => by have := hod _ e; omega, fun e => by have := hos _ e; omega⟩
        have hmf := make_func
        clear hd h hod hos hap hF hc hv hwf hP hR6 hrc hB5 hB6 hV5 hsz5 hle4 hle6 o0' k0'
        have HZ := hid hB7
        clear hB7
        go_wp2_with fail
        refine hch.mono ?_
        rintro e w7 ⟨rfl, hS7, hC7⟩
        have HY := hid (And.intro hS7 hC7)
        clear hS7 hC7 hch
        go_wp2
        go_ret
        obtain ⟨hS7, hC7⟩ := HY.out
        have hR : R = changeF S 1 (recB k v) (putE k v S.E) := by
          rw [← HR.out]
          unfold putF
          rw [if_neg (by rw [hdead]; simp), if_neg (fun hh => hh hkey), if_neg (by omega), if_neg ?_]
          intro hls
          obtain ⟨h1, h2⟩ := HQ.out
          rw [hls] at h1 h2
          simp at h1 h2
        rw [hR]
        refine ⟨rfl, hS7.later (Nat.le_trans HZ.out.size (Nat.le_refl _)) (fun j hj => hj.elim .inl (fun hj => .inr (by omega))), ?_⟩
        exact (Chg.of_below HZ.out (fun j => okd j ∨ ok j)).then_ hC7 (fun j hj => .inl hj)
  · rw [if_neg hkey]
    clear hk1
    go_wp2
    go_ret
    obtain ⟨hd, h, hod, hos, hap, hF, hc, hv, hwf⟩ := H0.out
    have hR : R = (1, S) := by
      rw [← HR.out]
      unfold putF
      rw [if_neg (by rw [hdead]; simp), if_pos hkey]
    rw [hR]
    exact ⟨rfl, SysOut.same hd h hap hB2, Chg.of_below hB2 _⟩
end Go.Proofs.YticogmpafehomaaGreatDoor

set_option linter.unusedVariables false
set_option linter.unusedSimpArgs false
namespace Go.Proofs.YticogmpafehomaaGreatDoor
open Go.RowKit Go.Maps Go.Proofs.YticogmpafehomaaGreatDoorW.PrintWords Go.Proofs.YticogmpafehomaaGreatDoorW.PrintMore

theorem sameB_any {w : World} {A A' : Option Addr} {c c' : Nat} {xs ys : List Int} (h : KB.C w A xs.length xs) (hx : Bytes xs) (h' : KB.C w A' ys.length ys) (hy : Bytes ys) :
    Calls Tryz.prog 14 #[.slice A xs.length c, .slice A' ys.length c'] w fun e w' => e = .returned (.bool (decide (xs = ys))) ∧ w = w' := by
  have e1 := conv_str (c := c) h
  have e2 := conv_str (c := c') h'
  have e3 := toL_str hx hy
  generalize strOfNums xs = S at e1 e3
  generalize strOfNums ys = T at e2 e3
  generalize decide (xs = ys) = q at e3 ⊢
  cases q with
  | true =>
    go_enter Tryz.func14, Tryz.ntmps14
    go_wp2
    go_ret
    exact ⟨by simp_all, rfl⟩
  | false =>
    go_enter Tryz.func14, Tryz.ntmps14
    go_wp2
    go_ret
    exact ⟨by simp_all, rfl⟩
/-- A disk and a store of a call's own. -/
structure OwnSys (w wr : World) (pd ps : Nat) (S : SM) (okd okS : Nat → Prop) : Prop where
  d : PDisk wr okd pd S.D
  s : PSto wr okS ps pd S
  ap : apart okd okS
  gd : ∀ k, okd k → w.heap.size ≤ k ∧ k < wr.heap.size
  gs : ∀ k, okS k → w.heap.size ≤ k ∧ k < wr.heap.size
  bel : Below w.heap.size w wr
theorem OwnSys.below {w wr w1 : World} {pd ps : Nat} {S : SM} {okd okS : Nat → Prop} (h : OwnSys w wr pd ps S okd okS) (hb : Below wr.heap.size wr w1) : OwnSys w w1 pd ps S okd okS :=
  ⟨h.d.step (fun k _ hk => hb.block k hk), h.s.below hb, h.ap, fun k hk => by have := h.gd k hk; have := hb.size; omega, fun k hk => by have := h.gs k hk; have := hb.size; omega, h.bel.trans (hb.mono h.bel.size)⟩
theorem OwnSys.out {w wr w1 : World} {pd ps : Nat} {S S' : SM} {okd okS : Nat → Prop} (h : OwnSys w wr pd ps S okd okS) (ho : SysOut wr w1 okd okS ps pd S') (hc : Chg (fun k => okd k ∨ okS k) wr w1) : ∃ okd' okS', OwnSys w w1 pd ps S' okd' okS' := by
  obtain ⟨a, b, h1, h2, h3, h4, h5⟩ := ho
  have hs := hc.size
  have hs0 := h.bel.size
  exact ⟨fun k => a k ∧ k < w1.heap.size, fun k => b k ∧ k < w1.heap.size, h1.bound, h2.bound, fun k q1 q2 => h3 k q1.1 q2.1,
    fun k hk => ⟨(h4 k hk.1).elim (fun e => (h.gd k e).1) (fun e => Nat.le_trans hs0 e), hk.2⟩, fun k hk => ⟨(h5 k hk.1).elim (fun e => (h.gs k e).1) (fun e => Nat.le_trans hs0 e), hk.2⟩,
    h.bel.trans (hc.below_ (B := w.heap.size) hs0 (fun k hk => hk.elim (fun e => (h.gd k e).1) (fun e => (h.gs k e).1)))⟩
theorem room_le {D : DM} {m : Nat} (h : D.ws.length ≤ m) (hm : (m : Int) ≤ 4000000000000) : Room D := fun _ => by
  have h2 := Int.ofNat_le.2 h
  refine Int.ofNat_le.1 ?_
  rw [Int.natCast_mul, Int.natCast_add]
  generalize ((D.ws.length : Nat) : Int) = b at h2 ⊢
  have e1 : ((4300000000 : Nat) : Int) = 4300000000 := rfl
  have e2 : ((32 : Nat) : Int) = 32 := rfl
  have e3 : ((140737488355328 : Nat) : Int) = 140737488355328 := rfl
  rw [e1, e2, e3]
  omega
theorem room100 {D : DM} (h : D.ws.length ≤ 100) : Room D := room_le h (by show (100 : Int) ≤ 4000000000000; omega)
theorem liveS_wf : ∀ i, i ≤ 8 → (liveS i).wf
  | 0, _ => by
    have h := live_f0
    obtain ⟨⟨E, D', o⟩, hf⟩ : ∃ r, formatF (DM.new 16) = r := ⟨_, rfl⟩
    have h2 := h.2.1
    unfold liveS live0
    rw [hf] at h2 ⊢
    cases o with
    | none => cases h2
    | some S => exact (formatF_wf (new_wf (by omega) (by omega)) hf).1
  | i + 1, h => putF_wf (liveS_wf i (by omega)) kA (fun x hx => by simp at hx; omega)
set_option maxRecDepth 100000 in
set_option maxHeartbeats 8000000 in
theorem live_any {w : World} : Calls Tryz.prog 17 #[] w fun e w' => e = .returned (.bool true) ∧ Below w.heap.size w w' := by
  obtain ⟨f1, f2, f3, f4, f5⟩ := live_f0
  have hnew := new_ok (w := w) 16 (by omega) (by omega)
  have hmk : ∀ W : World, (Instr.makeSlice 25 (.int .i64 300) (.int .i64 300)).run Tryz.prog W = .ok (.slice (some ⟨W.heap.size, 0, none⟩) 300 300) (W.alloc (.cells (madeCells #[.int .u8 0] 300) 5)) :=
    print_make 25 5 .u8 1 Tryz.underlying25 info_u8 (by decide) 300 (by omega)
  have hF := hid (And.intro f3 (And.intro f4 f5))
  go_enter Tryz.func17, Tryz.ntmps17
  go_wp2_with fail
  refine hnew.mono ?_
  rintro e w1 ⟨rfl, hP1, hB1⟩
  have hfm := format_any hP1.bound (by simp [DM.new]) (fun k hk => hk.2)
  obtain ⟨⟨E, D', o⟩, hf⟩ : ∃ r, formatF (DM.new 16) = r := ⟨_, rfl⟩
  have hl0 : live0 = orS o := by unfold live0; rw [hf]
  rw [hf] at f1 f2 hfm
  dsimp only at f1 f2 hfm
  subst f1
  cases o with
  | none => cases f2
  | some S0 =>
  have hl0 : live0 = S0 := hl0
  clear hnew hP1 f2 f3 f4 f5
  go_wp2_with fail
  refine hfm.mono ?_
  rintro e w2 ⟨v, rfl, ⟨ps, okd, okS, rfl, hP2, hS2, hap2, hgd2, hgs2⟩, hC2⟩
  have hs1 := hB1.size
  have hB2 : Below w.heap.size w w2 := hB1.trans (hC2.below_ (B := w.heap.size) hs1 (fun k hk => hk.1))
  have h0 : OwnSys w w2 (w.heap.size + 1) ps (liveS 0) (fun k => okd k ∧ k < w2.heap.size) (fun k => okS k ∧ k < w2.heap.size) := by
    show OwnSys w w2 (w.heap.size + 1) ps live0 _ _
    rw [hl0]
    exact ⟨hP2.bound, hS2.bound, fun k h1 h2 => hap2 k h1.1 h2.1, fun k hk => ⟨(hgd2 k hk.1).elim (fun e => e.1) (fun e => Nat.le_trans hs1 e), hk.2⟩, fun k hk => ⟨Nat.le_trans hs1 (hgs2 k hk.1), hk.2⟩, hB2⟩
  have hha := shalf_any hS2 hP2
  rw [← hl0, hF.out.1] at hha
  have H0 := hid h0
  clear hfm hP2 hS2 hap2 hgd2 hgs2 hC2 hB2 hB1 h0
  go_wp2_with (go_at_call 30; refine hha.mono ?_; rintro e w' ⟨rfl, rfl⟩)
  clear hha
  go_loopw [5] (fun i wr => ∃ j : Nat, j ≤ 8 ∧ i = .int .i64 j ∧ ∃ okd okS, OwnSys w wr (w.heap.size + 1) ps (liveS j) okd okS) (fun i _ => 8 - (intOf i).toNat)
  case atStart => exact ⟨0, by omega, rfl, _, _, H0.out⟩
  case round =>
    obtain ⟨W, hW⟩ : ∃ W : World, W = wr := ⟨_, rfl⟩
    subst hW
    obtain ⟨j, hj, rfl, okd, okS, hO⟩ := hrel
    by_cases hlt : j < 8
    · have hltI : (j : Int) < 8 := by omega
      have hwb : IntKind.u8.wrap (j : Int) = j := by rw [IntKind.wrap_u8]; omega
      have hA := RB_new W 5 [(j : Int), 0, 0] (by simp)
      have hB := below_alloc (Below.refl W.heap.size W) (.cells (nums .u8 [(j : Int), 0, 0]).toArray 5)
      have hO1 := hO.below hB
      obtain ⟨p1, p2, p3⟩ := live_f1 j hlt
      have hput := sput_alive (k := kA) (c := 3) hO1.d hO1.s (liveS_wf j hj) (room100 p3) p2 (fun k hk => (hO1.gd k hk).2) (fun k hk => (hO1.gs k hk).2) hO1.ap hA (by simp) (fun x hx => by simp at hx; omega) (by decide)
      rw [p1] at hput
      have HO := hid hO1
      clear hA hB hO hO1 p1 p2 p3
      go_wp2_with fail
      refine hput.mono ?_
      rintro e w4 ⟨rfl, hS4, hC4⟩
      have hO4 := HO.out.out hS4 hC4
      have HX := hid hO4
      clear hS4 hC4 hput hO4
      go_wp2
      go_roundw
      case rel => exact ⟨j + 1, hlt, by go_num, HX.out⟩
      case measure => simp only [intOf]; omega
    · obtain rfl : j = 8 := by omega
      obtain ⟨g1, g2, g3, g4, g5, g6, g7, g8⟩ := live_f2
      have hwf8 := liveS_wf 8 (by omega)
      have hmn := sman_any hO.s
      unfold manV at hmn
      rw [g3, g4, g5] at hmn
      have HO := hid hO
      clear hO
      go_wp2_with fail
      refine hmn.mono ?_
      rintro e w4 ⟨rfl, hB4⟩
      have hBm := below_step hB4 (below_alloc (Below.refl _ _) (.cells #[.int .u64 2, .int .u64 2, .int .i64 1] 29))
      have hm5 := heap_alloc_new w4 (.cells #[.int .u64 2, .int .u64 2, .int .i64 1] 29)
      have hO5 := HO.out.below hBm
      have hget := sget_any hO5.s hwf8 kA (by decide)
      rw [g6] at hget
      have HO5 := hid hO5
      clear hmn hB4 hBm hO5
      go_wp2_with fail
      generalize w4.alloc (.cells #[.int .u64 2, .int .u64 2, .int .i64 1] 29) = w5 at hm5 hget HO5 ⊢
      refine hget.mono ?_
      rintro e w6 ⟨A6, c6, rfl, hR6, hB6⟩
      simp only [Option.getD_some, Option.isSome_some] at hR6 ⊢
      have hO6 := HO5.out.below hB6
      have hm6 := (hB6.block _ (blk_lt hm5)).trans hm5
      have hrow := RB_new w6 5 [(7 : Int), 0, 0] (by simp)
      have hBr := below_alloc (Below.refl w6.heap.size w6) (.cells (nums .u8 [(7 : Int), 0, 0]).toArray 5)
      have hsb := sameB_any (c := c6) (c' := 3) (Kd.F_now (RB_below (Kd.R_F hR6) hBr)) (fun x hx => by simp at hx; omega) (Kd.F_now hrow) (fun x hx => by simp at hx; omega)
      rw [decide_eq_true rfl] at hsb
      have hO7 := hO6.below hBr
      have hm7 := (hBr.block _ (blk_lt hm6)).trans hm6
      have hus := sused_any hO7.s
      rw [g7] at hus
      have k0 := cell_of_row _ _ 0 _ _ _ hm7
      have k1 := cell_of_row _ _ 1 _ _ _ hm7
      have k2 := cell_of_row _ _ 2 _ _ _ hm7
      simp at k0 k1 k2
      have hzl : madeCells #[Value.int .u8 0] 300 = (nums .u8 Z300).toArray := by kernel_rfl
      have hmk2 := hmk
      rw [hzl] at hmk2
      have hZl : Z300.length = 300 := by unfold Z300; simp
      have hz := RB_new (w6.alloc (.cells (nums .u8 [(7 : Int), 0, 0]).toArray 5)) 5 Z300 (by rw [hZl]; omega)
      have hBz := below_alloc (Below.refl (w6.alloc (.cells (nums .u8 [(7 : Int), 0, 0]).toArray 5)).heap.size (w6.alloc (.cells (nums .u8 [(7 : Int), 0, 0]).toArray 5))) (.cells (nums .u8 Z300).toArray 5)
      have hO8 := hO7.below hBz
      have hput := sput_alive (k := kB) (c := 300) hO8.d hO8.s hwf8 (room100 g2) g1 (fun k hk => (hO8.gd k hk).2) (fun k hk => (hO8.gs k hk).2) hO8.ap hz (by rw [hZl]; omega) (fun x hx => by unfold Z300 at hx; rw [List.eq_of_mem_replicate hx]; omega) (by decide)
      rw [g8, hZl, World.size_alloc] at hput
      have HF := hid (hO8.bel)
      have HF2 := hid (And.intro hO8.gd hO8.gs)
      clear hget hR6 hB6 hO6 hm6 hrow hO7 hm7 hz hO8 hwf8 g1 g2 g3 g4 g5 g6 g7 g8 hZl hzl hmk hBr hBz
      go_wp2_with fail
      refine hsb.mono ?_
      rintro e w' ⟨rfl, rfl⟩
      go_wp2_with fail
      refine hus.mono ?_
      rintro e w' ⟨rfl, rfl⟩
      clear hsb hus
      go_wp2_with fail
      refine hput.mono ?_
      rintro e w9 ⟨rfl, _, hC9⟩
      have hB9 := HF.out.trans (hC9.below_ (B := w.heap.size) HF.out.size (fun k hk => hk.elim (fun e => (HF2.out.1 k e).1) (fun e => (HF2.out.2 k e).1)))
      clear hC9 hput
      go_wp2
      go_ret
      exact ⟨rfl, hB9⟩
end Go.Proofs.YticogmpafehomaaGreatDoor

set_option linter.unusedVariables false
set_option linter.unusedSimpArgs false
namespace Go.Proofs.YticogmpafehomaaGreatDoor
open Go.RowKit Go.Proofs.YticogmpafehomaaGreatDoorW.PrintWords Go.Proofs.YticogmpafehomaaGreatDoorW.PrintMore

theorem RB_mono_lt {w : World} {ok : Nat → Prop} {A : Option Addr} {xs : List Int} (h : RB w ok A xs) : RB w (fun k => ok k ∧ k < w.heap.size) A xs := Kd.F_bound h
theorem getD_take2 {b : List Int} (h : b.length = 64) : val ((((b.drop 2).take 62).drop 16).take 1) = b.getD 18 0 := by
  have e : (((b.drop 2).take 62).drop 16).take 1 = [b[18]'(by omega)] := by
    apply List.ext_getElem?
    intro i
    rcases i with _ | i
    · simp [List.getElem?_take, List.getElem?_drop, h]
    · simp [List.getElem?_take]
  rw [e]
  simp [val, List.getD_eq_getElem?_getD, h]
set_option maxRecDepth 100000 in
set_option maxHeartbeats 4000000 in
theorem fparse_any {w : World} {ok : Nat → Prop} {A : Option Addr} {c : Nat} {b : List Int} (h : RB w ok A b) (hb : Bytes b) (hc : b.length ≤ c) (i : Int) (hi : -9223372036854775808 ≤ i ∧ i ≤ 9223372036854775807) :
  Calls Tryz.prog 13 #[.slice A b.length c, .int .i64 i] w fun e w' => e = .returned (parseV (parseM b i)) ∧ Below w.heap.size w w' := by
  have hlm := RB_len h
  have hz := heap_alloc_new w (.cells #[.int .u64 0, .int .u64 0, .int .i64 0] 24)
  have hb0 := below_alloc (Below.refl w.heap.size w) (.cells #[.int .u64 0, .int .u64 0, .int .i64 0] 24)
  by_cases h64 : b.length = 64
  · obtain ⟨a, rfl⟩ := RB_some h (by omega)
    have hx62 : ((b.drop 2).take 62).length = 62 := part_len (by omega)
    have hR0 := part (RB_below h hb0) (i := 2) (n := 62) (by omega)
    have hrd := fread_any (A := some (a.add 2)) (c := c - 2) (xs := (b.drop 2).take 62) (RB_mono_lt hR0) (fun _ h => h.2) ((hb.drop 2).take 62) (by omega) (by omega)
    rw [hx62] at hrd
    rw [h64] at hc ⊢
    have n2 : ¬ c = 2 := by omega
    have i2 : (2 : Int) ≤ (c : Int) := by omega
    have i64 : (64 : Int) ≤ (c : Int) := by omega
    obtain ⟨w0, hw0⟩ : ∃ w0, w.alloc (.cells #[.int .u64 0, .int .u64 0, .int .i64 0] 24) = w0 := ⟨_, rfl⟩
    rw [hw0] at hz hb0 hrd
    have e1 : (⟨(b.drop 2).take 62, 0⟩ : St).out (oNum 8 ((b.drop 2).take 62)) 0 = numAt b 2 8 := by
      unfold St.out oNum numAt
      rw [if_pos rfl, if_pos (by omega), List.take_take]
      rfl
    have t1 : (⟨(b.drop 2).take 62, 0⟩ : St).took (oNum 8 ((b.drop 2).take 62)) = ⟨((b.drop 2).take 62).drop 8, 0⟩ := by
      unfold St.took oNum
      rw [if_pos rfl, if_pos (by omega)]
    have e2 : (⟨((b.drop 2).take 62).drop 8, 0⟩ : St).out (oNum 8 (((b.drop 2).take 62).drop 8)) 0 = numAt b 10 8 := by
      unfold St.out oNum numAt
      rw [if_pos rfl, if_pos (by rw [List.length_drop]; omega), List.drop_take, List.drop_drop, List.take_take]
      rfl
    have t2 : (⟨((b.drop 2).take 62).drop 8, 0⟩ : St).took (oNum 8 (((b.drop 2).take 62).drop 8)) = ⟨((b.drop 2).take 62).drop 16, 0⟩ := by
      unfold St.took oNum
      rw [if_pos rfl, if_pos (by rw [List.length_drop]; omega), List.drop_drop]
    have e3 : (⟨((b.drop 2).take 62).drop 16, 0⟩ : St).out (oNum 1 (((b.drop 2).take 62).drop 16)) 0 = b.getD 18 0 := by
      unfold St.out oNum
      rw [if_pos rfl, if_pos (by rw [List.length_drop]; omega)]
      exact getD_take2 h64
    have hx18 : 0 ≤ b.getD 18 0 ∧ b.getD 18 0 < 256 := hb.rd_ 18
    have l1 := numAt_lt hb (i := 2) (n := 8) (by omega)
    have l2 := numAt_lt hb (i := 10) (n := 8) (by omega)
    rw [show (256 : Int) ^ 8 = 18446744073709551616 from by decide] at l1 l2
    have hN : numAt b 2 8 = (manB b).N := rfl
    have hG : numAt b 10 8 = (manB b).G := rfl
    have hK : b.getD 18 0 = (manB b).K := rfl
    rw [hN] at e1 l1
    rw [hG] at e2 l2
    rw [hK] at e3 hx18
    clear hN hG hK
    have hP : parseM b i = if (manB b).ok ∧ b = packB (manB b) ∧ i = (manB b).N % 2 then some (manB b) else none := by
      unfold parseM
      by_cases hh : (manB b).ok ∧ b = packB (manB b) ∧ i = (manB b).N % 2
      · rw [if_pos ⟨h64, hh⟩, if_pos hh]
      · rw [if_neg (fun hq => hh hq.2), if_neg hh]
    rw [hP]
    have hpb := fun (hh : (manB b).ok) => toL_str hb (pack_bytes hh)
    generalize hm : manB b = m at e1 e2 e3 l1 l2 hx18 hpb ⊢
    generalize hs0 : (⟨(b.drop 2).take 62, 0⟩ : St) = s0 at e1 t1 hrd
    generalize hs1 : (⟨((b.drop 2).take 62).drop 8, 0⟩ : St) = s1 at e2 t1 t2
    generalize hs2 : (⟨((b.drop 2).take 62).drop 16, 0⟩ : St) = s2 at e3 t2
    have q0 : s0.b = (b.drop 2).take 62 := by rw [← hs0]
    have q1 : s1.b = ((b.drop 2).take 62).drop 8 := by rw [← hs1]
    have q2 : s2.b = ((b.drop 2).take 62).drop 16 := by rw [← hs2]
    rw [← q0] at e1 t1
    rw [← q1] at e2 t2
    rw [← q2] at e3
    have HB := hid (And.intro h hb)
    clear hs0 hs1 hs2 hm hP q0 q1 q2 hR0 h hb hx62
    obtain ⟨N, G, K⟩ := m
    dsimp only at *
    have uk : IntKind.i64.wrap K = K := by rw [IntKind.wrap_i64]; omega
    clear hlm
    obtain ⟨R, hR⟩ : ∃ R, (if (⟨N, G, K⟩ : MM).ok ∧ b = packB ⟨N, G, K⟩ ∧ i = N % 2 then some (⟨N, G, K⟩ : MM) else none) = R := ⟨_, rfl⟩
    rw [hR]
    have HR := hid hR
    clear hR
    go_enter Tryz.func13, Tryz.ntmps13
    go_wp2_with fail
    refine hrd.mono ?_
    rintro e w1 ⟨rfl, hP1, hsz1, hb1⟩
    obtain ⟨p, hp⟩ : ∃ p, w0.heap.size = p := ⟨_, rfl⟩
    have hpge : w0.heap.size ≤ p := by omega
    have hz1 := (hb1.block _ (blk_lt hz)).trans hz
    have hB1 := hb0.trans (hb1.mono hb0.size)
    rw [hp] at hP1 ⊢
    clear hp hsz1
    have hpn := blk_lt hz
    clear hrd hb0 hz hb1 hw0
    go_wp2_with fail
    refine (flong_any hP1).mono ?_
    rintro e w2 ⟨u, rfl, rfl, hP2, hC2⟩
    rw [t1] at hP2
    simp only [e1]
    have hz2 := (hC2.block _ (blk_lt hz1) (by omega)).trans hz1
    have hB2 := hB1.trans (hC2.below_ hB1.size (fun k hk => by omega))
    have sz2 := hC2.size
    clear hP1 hC2 hz1 hB1 t1 e1
    go_wp2_with fail
    refine (flong_any hP2).mono ?_
    rintro e w3 ⟨u, rfl, rfl, hP3, hC3⟩
    rw [t2] at hP3
    simp only [e2]
    have hz3 := (hC3.block _ (blk_lt hz2) (by omega)).trans hz2
    have hB3 := hB2.trans (hC3.below_ hB2.size (fun k hk => by omega))
    have sz3 := Nat.le_trans sz2 hC3.size
    clear hP2 hC3 hz2 hB2 t2 e2
    go_wp2_with fail
    refine (fbyte_any hP3).mono ?_
    rintro e w4 ⟨u, rfl, rfl, hP4, hC4⟩
    simp only [e3]
    have hz4 := (hC4.block _ (blk_lt hz3) (by omega)).trans hz3
    have hB4 := hB3.trans (hC4.below_ hB3.size (fun k hk => by omega))
    clear hP3 hC4 hz3 hB3 e3 hP4
    go_wp2_with fail
    have hz5 := (Below.heap_alloc w4 (.cells #[.int .u64 N, .int .u64 G, .int .i64 K] 24) w.heap.size (blk_lt hz4)).trans hz4
    have hr5 := heap_alloc_new w4 (.cells #[.int .u64 N, .int .u64 G, .int .i64 K] 24)
    have hB5 := below_step hB4 (below_alloc (Below.refl _ _) (.cells #[.int .u64 N, .int .u64 G, .int .i64 K] 24))
    have hlt4 := blk_lt hz4
    generalize w4.alloc (.cells #[.int .u64 N, .int .u64 G, .int .i64 K] 24) = w5 at hz5 hr5 hB5 ⊢
    have hlt5 := blk_lt hr5
    have hlt6 := blk_lt hz5
    clear hz4 hB4
    by_cases hok : (⟨N, G, K⟩ : MM).ok
    · have hpk := fpack_any (w := w5) hok
      unfold manV at hpk
      dsimp only at hpk
      refine hpk.mono ?_
      rintro e w6 ⟨g, cg, rfl, hU, hB6⟩
      have hz6 := (hB6.block _ hlt6).trans hz5
      have hr6 := (hB6.block _ hlt5).trans hr5
      have hB7 := below_step hB5 hB6
      have hW : Below w.heap.size w w6 := hB7
      have hsm := fsame_any (w := w6) (c := c) (c' := cg) (A' := g) (xs := b) (ys := packB ⟨N, G, K⟩) (Kd.F_now (RB_below HB.out.1 hW)) HB.out.2 (Kd.F_now (R_RB hU).2) (pack_bytes hok)
      rw [h64, pack_len] at hsm
      have k0 := cell_of_row _ _ 0 _ _ _ hr6
      have k1 := cell_of_row _ _ 1 _ _ _ hr6
      have k2 := cell_of_row _ _ 2 _ _ _ hr6
      have z0 := cell_of_row _ _ 0 _ _ _ hz6
      have z1 := cell_of_row _ _ 1 _ _ _ hz6
      have z2 := cell_of_row _ _ 2 _ _ _ hz6
      have f0 := frozen_of_row _ _ 0 _ _ hz6
      have f1 := frozen_of_row _ _ 1 _ _ hz6
      have f2 := frozen_of_row _ _ 2 _ _ hz6
      simp at k0 k1 k2 z0 z1 z2
      have hN0 : 0 ≤ N ∧ N ≤ 9223372036854775807 := by have := hok.1; have := hok.2.1; unfold mostN at this; dsimp only at *; omega
      have HOK := hid hok
      have hzf := hid (And.intro (set3 hz6) (And.intro (fun v0 v1 v2 => below3 hW (Nat.le_refl w.heap.size) v0 v1 v2) (And.intro hz6 hW)))
      clear hok hpk hU hB6 hz6 hr6 hB7 hW hz5 hr5 hB5 hpb HB
      by_cases hbe : b = packB ⟨N, G, K⟩
      · rw [decide_eq_true hbe] at hsm
        have hmod : (N.tmod 2) = N % 2 := Int.tmod_eq_emod_of_nonneg hN0.1
        have hwm : IntKind.u64.wrap (N % 2) = N % 2 := by rw [IntKind.wrap_u64]; omega
        have hwn : IntKind.i64.wrap (N % 2) = N % 2 := by rw [IntKind.wrap_i64]; omega
        by_cases hie : i = N % 2
        · have hii : (i == N % 2) = true := by simpa using hie
          have hfin : R = some ⟨N, G, K⟩ := by rw [← HR.out, if_pos ⟨HOK.out, hbe, hie⟩]
          subst hfin
          clear hie hbe HR
          go_wp2_with fail
          refine hsm.mono ?_
          rintro e w7 ⟨rfl, rfl⟩
          go_wp2
          refine bodyPost_ret (results_ct rfl _ _ w.heap.size 24 _ _ _ rfl (hzf.out.1 (.int .u64 N) (.int .u64 G) (.int .i64 K)) Tryz.underlying24 rfl (by kernel_rfl)) rfl ?_
          exact ⟨rfl, hzf.out.2.1 _ _ _⟩
        · have hji : (i == N % 2) = false := by simpa using hie
          have hfin : R = none := by rw [← HR.out, if_neg (fun hh => hie hh.2.2)]
          subst hfin
          clear hie hbe HR
          go_wp2_with fail
          refine hsm.mono ?_
          rintro e w7 ⟨rfl, rfl⟩
          go_wp2
          refine bodyPost_ret (results_ct rfl _ _ w.heap.size 24 _ _ _ rfl (hzf.out.1 (.int .u64 0) (.int .u64 0) (.int .i64 0)) Tryz.underlying24 rfl (by kernel_rfl)) rfl ?_
          exact ⟨rfl, hzf.out.2.1 _ _ _⟩
      · rw [decide_eq_false hbe] at hsm
        have hfin : R = none := by rw [← HR.out, if_neg (fun hh => hbe hh.2.1)]
        subst hfin
        clear hbe HR
        go_wp2_with fail
        refine hsm.mono ?_
        rintro e w7 ⟨rfl, rfl⟩
        go_wp2
        refine bodyPost_ret (results_ct rfl _ _ w.heap.size 24 _ _ _ rfl (hzf.out.1 (.int .u64 0) (.int .u64 0) (.int .i64 0)) Tryz.underlying24 rfl (by kernel_rfl)) rfl ?_
        exact ⟨rfl, hzf.out.2.1 _ _ _⟩
    · have hpk := fpack_err (w := w5) hok l1.1 l2.1
      unfold manV at hpk
      dsimp only at hpk
      have hfin : R = none := by rw [← HR.out, if_neg (fun hh => hok hh.1)]
      subst hfin
      refine hpk.mono ?_
      rintro e w6 ⟨rfl, hB6⟩
      have hz6 := (hB6.block _ hlt6).trans hz5
      have hB7 := below_step hB5 hB6
      have z0 := cell_of_row _ _ 0 _ _ _ hz6
      have z1 := cell_of_row _ _ 1 _ _ _ hz6
      have z2 := cell_of_row _ _ 2 _ _ _ hz6
      have f0 := frozen_of_row _ _ 0 _ _ hz6
      have f1 := frozen_of_row _ _ 1 _ _ hz6
      have f2 := frozen_of_row _ _ 2 _ _ hz6
      simp at z0 z1 z2
      have hzf := hid (And.intro (set3 hz6) (And.intro (fun v0 v1 v2 => below3 hB7 (Nat.le_refl w.heap.size) v0 v1 v2) (And.intro hz6 hB7)))
      clear hok hpk hB6 hz6 hB7 hz5 hr5 hB5 hpb HB HR
      go_wp2
      refine bodyPost_ret (results_ct rfl _ _ w.heap.size 24 _ _ _ rfl (hzf.out.1 (.int .u64 0) (.int .u64 0) (.int .i64 0)) Tryz.underlying24 rfl (by kernel_rfl)) rfl ?_
      exact ⟨rfl, hzf.out.2.1 _ _ _⟩
  · rw [show parseM b i = none from by unfold parseM; rw [if_neg (fun hh => h64 hh.1)]]
    have hl : ((b.length : Int) == 64) = false := by simpa using (by omega : ¬ (b.length : Int) = 64)
    have hf := hb0
    have hz0 := hz
    go_enter Tryz.func13, Tryz.ntmps13
    go_wp2
    refine bodyPost_ret (results_ct rfl _ _ w.heap.size 24 _ _ _ rfl hz0 Tryz.underlying24 rfl (by kernel_rfl)) rfl ?_
    exact ⟨rfl, hf⟩
end Go.Proofs.YticogmpafehomaaGreatDoor

set_option linter.unusedVariables false
set_option linter.unusedSimpArgs false
namespace Go.Proofs.YticogmpafehomaaGreatDoor
open Go.RowKit Go.Proofs.YticogmpafehomaaGreatDoorW.PrintWords Go.Proofs.YticogmpafehomaaGreatDoorW.PrintMore

end Go.Proofs.YticogmpafehomaaGreatDoor

set_option linter.unusedVariables false
set_option linter.unusedSimpArgs false
namespace Go.Proofs.YticogmpafehomaaGreatDoor
open Go.RowKit Go.Proofs.YticogmpafehomaaGreatDoorW.PrintWords Go.Proofs.YticogmpafehomaaGreatDoorW.PrintMore

theorem RB_of_C24 {w : World} {A : Option Addr} {b : List Int} (h : KB.C w A b.length b) : RB w (fun k => k < w.heap.size) A b := fun W' hW => by
  have h2 := C_int h
  refine Kd.C_of_reads (enc := Value.int .u8) (d := (0 : Int)) (h1 := fun _ => rfl) ⟨rfl, h2.2.1, fun hp => ?_⟩
  obtain ⟨ad, he, hc⟩ := h2.2.2 hp
  refine ⟨ad, he, fun j hj => ?_⟩
  have h3 := hc j hj
  have hb := World.block_lt_of_cell? w _ h3
  have := hW _ hb hb
  rw [← h3]
  simp only [World.cell?, this]
theorem RB_none24 {w : World} {ok : Nat → Prop} : RB w ok none [] := fun W' _ =>
  Kd.C_of_reads (enc := Value.int .u8) (d := (0 : Int)) (h1 := fun _ => rfl) ⟨rfl, by simp, fun hp => absurd hp (by simp)⟩
def packX (m : MM) : List Int := if m.ok then packB m else []
def packE (m : MM) : Int := if m.ok then 0 else 1
theorem packX_bytes (m : MM) : Bytes (packX m) := by
  unfold packX
  by_cases h : m.ok
  · rw [if_pos h]; exact pack_bytes h
  · rw [if_neg h]; intro x hx; cases hx
theorem packS_all {w : World} {m : MM} (hN : 0 ≤ m.N) (hG : 0 ≤ m.G) : Calls Tryz.prog 10 #[manV m] w fun e w' => ∃ A c, e = .returned (.tuple #[.slice A (packX m).length c, .int .i64 (packE m)]) ∧ RB w' (fun k => w.heap.size ≤ k) A (packX m) ∧ Below w.heap.size w w' := by
  unfold packX packE
  by_cases h : m.ok
  · rw [if_pos h, if_pos h, pack_len]
    refine (pack_any h).mono ?_
    rintro e w' ⟨g, rfl, hg, hU, hB⟩
    exact ⟨_, _, rfl, Kd.F_mono (hU.row (by rw [pack_len]; omega)) (fun k hk => by omega), hB⟩
  · rw [if_neg h, if_neg h]
    refine (pack_err h hN hG).mono ?_
    rintro e w' ⟨rfl, hB⟩
    exact ⟨none, 0, rfl, RB_none24, hB⟩
theorem packF_all {w : World} {m : MM} (hN : 0 ≤ m.N) (hG : 0 ≤ m.G) : Calls Tryz.prog 11 #[manV m] w fun e w' => ∃ A c, e = .returned (.tuple #[.slice A (packX m).length c, .int .i64 (packE m)]) ∧ RB w' (fun k => w.heap.size ≤ k) A (packX m) ∧ Below w.heap.size w w' := by
  unfold packX packE
  by_cases h : m.ok
  · rw [if_pos h, if_pos h, pack_len]
    refine (fpack_any h).mono ?_
    rintro e w' ⟨A, c, rfl, hR, hB⟩
    exact ⟨_, _, rfl, (R_RB hR).2, hB⟩
  · rw [if_neg h, if_neg h]
    refine (fpack_err h hN hG).mono ?_
    rintro e w' ⟨rfl, hB⟩
    exact ⟨none, 0, rfl, RB_none24, hB⟩
set_option maxRecDepth 100000 in
set_option maxHeartbeats 4000000 in
theorem storeManifests_any {w : World} (m : MM) (hN : 0 ≤ m.N) (hG : 0 ≤ m.G) {A : Option Addr} {c : Nat} {b : List Int} (hC : KB.C w A b.length b) (hb : Bytes b) (hc : b.length ≤ c) (hl : b.length ≤ 140737488351232) (i : Int) (hi : -9223372036854775808 ≤ i ∧ i ≤ 9223372036854775807) (k : ByteArray) (n : Int) (hn : -9223372036854775808 ≤ n ∧ n ≤ 9223372036854775807) :
    Calls Tryz.prog 3 #[manV m, .slice A b.length c, .int .i64 i, .string k, .int .i64 n] w fun e w' => e = .returned (.bool true) ∧ Below w.heap.size w w' := by
  have hF := RB_of_C24 hC
  have hxb := packX_bytes m
  have hns := fun W : World => needS_any (w := W) k n hn
  have hnf := fun W : World => needF_any (w := W) k n hn
  have hps := fun W : World => packS_all (w := W) hN hG
  have hpf := fun W : World => packF_all (w := W) hN hG
  generalize packX m = X at hxb hps hpf
  generalize packE m = E at hps hpf
  unfold manV at hps hpf ⊢
  obtain ⟨N, G, K⟩ := m
  dsimp only at *
  have hx0 := heap_alloc_new w (.cells #[.int .u64 N, .int .u64 G, .int .i64 K] 24)
  have hB0 := below_alloc (Below.refl w.heap.size w) (.cells #[.int .u64 N, .int .u64 G, .int .i64 K] 24)
  have hF0 := RB_below hF hB0
  clear hF hC hN hG
  go_enter Tryz.func3, Tryz.ntmps3
  go_wp2_with fail
  generalize w.alloc (.cells #[.int .u64 N, .int .u64 G, .int .i64 K] 24) = w0 at hx0 hB0 hF0 ⊢
  refine (hps w0).mono ?_
  rintro e w1 ⟨A1, c1, rfl, hX1, hB1⟩
  have hx1 := (hB1.block _ (blk_lt hx0)).trans hx0
  have hB1' := below_step hB0 hB1
  have hF1 := RB_below hF0 hB1
  have k0 := cell_of_row _ _ 0 _ _ _ hx1
  have k1 := cell_of_row _ _ 1 _ _ _ hx1
  have k2 := cell_of_row _ _ 2 _ _ _ hx1
  simp at k0 k1 k2
  clear hx0 hB0 hF0 hps hB1
  go_wp2_with fail
  refine (hpf w1).mono ?_
  rintro e w2 ⟨A2, c2, rfl, hX2, hB2⟩
  have hB2' := below_step hB1' hB2
  have hF2 := RB_below hF1 hB2
  have hX1' := RB_below hX1 hB2
  clear hx1 hB1' hF1 hpf hB2 hX1 k0 k1 k2
  go_wp2_with (at_builtin; refine print_append_row (w0 := w2) w2.heap.size rfl (.tmp 36) (.tmp 37) 25 5 .u8 1 rfl Tryz.underlying25 info_u8 (by decide) _ [] b A b.length c rfl rfl ?HO ?HR ?HB ?hb ?hl ?_)
  case HO => exact World.ownsRow_made (base := w2.heap.size) w2 #[] 0 (Nat.le_refl _) (Nat.zero_le _) rfl
  case HR => exact RB_int (RB_below hF2 (below_alloc (Below.refl _ _) _))
  case HB => exact below_alloc (Below.refl _ _) _
  case hb => simp
  case hl => simp; omega
  intro v3 w3 ho hB3 hg hat
  have hR3 : KB.R 5 w3 w2.heap.size (fun k => w2.heap.size ≤ k) v3 b := Rown (by simpa using ho) (fun q hq => own_base ho q hq)
  obtain ⟨A3, c3, rfl, hle3, _⟩ := Kd.R_reads hR3
  have hF3 := RB_below hF2 hB3
  have hX2' := RB_below hX2 hB3
  have hX1 := RB_below hX1' hB3
  have hB3' := below_step hB2' hB3
  have hG3 := (R_RB hR3).2
  clear ho hg hat hR3 hF2 hX2 hX1' hB2' hB3
  have hps := parse_any hG3 hb hle3 i hi
  have hpf := fun (W : World) (h : RB W (fun k => k < w.heap.size) A b) => fparse_any h hb hc i hi
  generalize parseM b i = P at hps hpf
  unfold parseV manV at hps hpf
  generalize P.getD ⟨0, 0, 0⟩ = pm at hps hpf
  generalize P.isSome = pb at hps hpf
  obtain ⟨PN, PG, PK⟩ := pm
  dsimp only at hps hpf
  go_wp2_with fail
  refine hps.mono ?_
  rintro e w4 ⟨rfl, hB4⟩
  have hr5 := heap_alloc_new w4 (.cells #[.int .u64 PN, .int .u64 PG, .int .i64 PK] 29)
  have hB5 := hB4.trans (below_alloc (Below.refl _ _) (.cells #[.int .u64 PN, .int .u64 PG, .int .i64 PK] 29) |>.mono hB4.size)
  have hF5 := RB_below hF3 hB5
  have hX15 := RB_below hX1 hB5
  have hX25 := RB_below hX2' hB5
  have hB5' := below_step hB3' hB5
  clear hps hF3 hX1 hX2' hB3' hG3 hB4 hB5
  go_wp2_with fail
  generalize w4.alloc (.cells #[.int .u64 PN, .int .u64 PG, .int .i64 PK] 29) = w5 at hr5 hF5 hX15 hX25 hB5' ⊢
  refine (hpf w5 hF5).mono ?_
  rintro e w6 ⟨rfl, hB6⟩
  have hr6 := (hB6.block _ (blk_lt hr5)).trans hr5
  have hr7 := (Below.heap_alloc w6 (.cells #[.int .u64 PN, .int .u64 PG, .int .i64 PK] 24) _ (blk_lt hr6)).trans hr6
  have hs7 := heap_alloc_new w6 (.cells #[.int .u64 PN, .int .u64 PG, .int .i64 PK] 24)
  have hB7 := below_step hB5' (hB6.trans (below_alloc (Below.refl _ _) (.cells #[.int .u64 PN, .int .u64 PG, .int .i64 PK] 24) |>.mono hB6.size))
  have hX17 := RB_below (RB_below hX15 hB6) (below_alloc (Below.refl _ _) (.cells #[.int .u64 PN, .int .u64 PG, .int .i64 PK] 24))
  have hX27 := RB_below (RB_below hX25 hB6) (below_alloc (Below.refl _ _) (.cells #[.int .u64 PN, .int .u64 PG, .int .i64 PK] 24))
  clear hpf hF5 hX15 hX25 hB5' hr5 hr6 hB6
  have hsm := sameB_any (c := c1) (c' := c2) (Kd.F_now hX17) hxb (Kd.F_now hX27) hxb
  rw [decide_eq_true rfl] at hsm
  clear hX17 hX27
  have k0 := cell_of_row _ _ 0 _ _ _ hr7
  have k1 := cell_of_row _ _ 1 _ _ _ hr7
  have k2 := cell_of_row _ _ 2 _ _ _ hr7
  have l0 := cell_of_row _ _ 0 _ _ _ hs7
  have l1 := cell_of_row _ _ 1 _ _ _ hs7
  have l2 := cell_of_row _ _ 2 _ _ _ hs7
  simp at k0 k1 k2 l0 l1 l2
  clear hr7 hs7
  have hlv := live_any (w := w6.alloc (.cells #[.int .u64 PN, .int .u64 PG, .int .i64 PK] 24))
  have hns := hns (w6.alloc (.cells #[.int .u64 PN, .int .u64 PG, .int .i64 PK] 24))
  have hnf := hnf (w6.alloc (.cells #[.int .u64 PN, .int .u64 PG, .int .i64 PK] 24))
  generalize needK k n = nk at hns hnf
  have HB := hid hB7
  clear hB7
  go_wp2_with (first | (go_at_call 14; refine hsm.mono ?_; rintro e w' ⟨rfl, rfl⟩) | (go_at_call 15; refine hns.mono ?_; rintro e w' ⟨rfl, rfl⟩) | (go_at_call 16; refine hnf.mono ?_; rintro e w' ⟨rfl, rfl⟩))
  refine hlv.mono ?_
  rintro e w8 ⟨rfl, hB8⟩
  have hB9 := below_step HB.out hB8
  clear hlv hns hnf hB8
  go_wp2
  go_ret
  exact ⟨rfl, hB9⟩
abbrev KMan24 : Kd MM := Kd.iso (Kd.pair (Kd.int .u64) (Kd.pair (Kd.int .u64) (Kd.int .i64))) (fun x : MM => (x.N, x.G, x.K))
structure MM.okA (m : MM) : Prop where
  n : 0 ≤ m.N
  g : 0 ≤ m.G
theorem opens_man24 : Opens Tryz.prog 24 KMan24 MM.okA := by
  refine (opens_iso (P := Tryz.prog) (t := 24) (fun x : MM => (x.N, x.G, x.K)) (fun p => ⟨p.1, p.2.1, p.2.2⟩) (fun _ => rfl)
    (opens_struct Tryz.underlying24 (by kernel_rfl) (opensF_cons rfl (by kernel_rfl) (opens_int Tryz.underlying22) (opensF_cons rfl (by kernel_rfl) (opens_int Tryz.underlying22) (opensF_one rfl (by kernel_rfl) (opens_int Tryz.underlying3)))))).mono ?_
  rintro o ⟨h0, h1, h2⟩
  exact ⟨(bounds_u64 h0).1, (bounds_u64 h1).1⟩
theorem storeManifests_row {W : World} {m : MM} {cs : Array Value} (h : KMan24.K W m cs.toList) (hm : m.okA) {A : Option Addr} {c : Nat} {b : List Int} (hC : KB.C W A b.length b) (hb : Bytes b ∧ b.length ≤ 140737488351232) (hc : b.length ≤ c) {i n : Int} (hi : (Lit.int .i64 i).wf = true) (hn : (Lit.int .i64 n).wf = true) (k : ByteArray) :
    Calls Tryz.prog 3 #[.agg cs, .slice A b.length c, .int .i64 i, .string k, .int .i64 n] W fun e W' => e = .returned (.bool true) ∧ Below W.heap.size W W' := by
  obtain ⟨c0, cs1, e1, h0, c1, c2, rfl, h1, h2⟩ := h
  obtain rfl : c0 = [.int .u64 m.N] := h0
  obtain rfl : c1 = [.int .u64 m.G] := h1
  obtain rfl : c2 = [.int .i64 m.K] := h2
  obtain rfl : cs = #[.int .u64 m.N, .int .u64 m.G, .int .i64 m.K] := Array.toList_inj.1 e1
  exact storeManifests_any m hm.n hm.g hC hb.1 hc hb.2 i (bounds_i64 hi) k n (bounds_i64 hn)
end Go.Proofs.YticogmpafehomaaGreatDoor

set_option linter.unusedVariables false
set_option linter.unusedSimpArgs false
namespace Go.Proofs.YticogmpafehomaaGreatDoor
open Go.ChangeShapes Go.WideShapes Go.ChangeAt Go.RowKit Go.Proofs.YticogmpafehomaaGreatDoorW.PrintWords
open Go.ChangeMaps (open_string shut_string)
set_option linter.unusedVariables false
set_option maxRecDepth 100000 in
theorem storeManifests_contract (H : Type) (enc : TypeId × Value → H) (W : World) (base : Nat) (args : Array Value) (ds gs : List (DataW H)) (before : List MemPlace)
    (hval0 : ∀ (j : Nat) t v, Tryz.f3.params[j]? = some t → args[j]? = some v → Value.okWide Tryz.prog W .any base t v)
    (hW : DataW.Whole enc Tryz.prog Tryz.f3.params.toList Rows.storeManifestsSpec.vars false W args.toList ds gs before)
    (hsz0 : (DataW.weightsEach Tryz.prog (Tryz.f3.params.toList ++ Rows.storeManifestsSpec.plain.varTypes Tryz.prog) (ds ++ gs)).all (· ≤ reachBytes) = true) (N : NOK W) :
    Calls Tryz.prog 3 args W fun e W' => ∃ v, e = .returned v ∧ Rows.storeManifestsSpec.post enc Tryz.prog Tryz.f3 false true false false W args v W' := by
  have hsz := hsz0
  have hval := hval0
  have hW' := hW
  obtain ⟨p, q, hA0, hV, rfl, hfz, hnd⟩ := hW
  have hA : DataW.TrodAll enc Tryz.prog W 0 (fun _ => true) true Tryz.f3.params.toList args.toList ds p := hA0
  rw [Tryz.params3] at hA hval hsz
  obtain ⟨v0, vs0, d0, ds0, p0, q0, hargs, rfl, rfl, h0, r0⟩ := trodAll_cons hA
  obtain ⟨v1, vs1, d1, ds1, p1, q1, rfl, rfl, rfl, h1, r1⟩ := trodAll_cons r0
  obtain ⟨v2, vs2, d2, ds2, p2, q2, rfl, rfl, rfl, h2, r2⟩ := trodAll_cons r1
  obtain ⟨v3, vs3, d3, ds3, p3, q3, rfl, rfl, rfl, h3, r3⟩ := trodAll_cons r2
  obtain ⟨v4, vs4, d4, ds4, p4, q4, rfl, rfl, rfl, h4, r4⟩ := trodAll_cons r3
  obtain ⟨rfl, rfl, rfl⟩ := trodAll_nil r4
  obtain rfl : args = #[v0, v1, v2, v3, v4] := by cases args; simp_all
  obtain ⟨rfl, rfl⟩ := trodVars_none hV
  have lt0 : ∀ x ∈ p0, x.block < W.heap.size := by obtain ⟨m, hm⟩ := h0; exact DataW.trod_lt m _ _ _ hm
  obtain ⟨cs0, rfl, _⟩ := okWide_struct Tryz.underlying24 (hval 0 24 v0 rfl rfl)
  obtain ⟨x0, k0, g0⟩ := opens_man24.arg hsz (j := 0) (t := 24) rfl rfl h0
  have lt1 : ∀ x ∈ p1, x.block < W.heap.size := by obtain ⟨m, hm⟩ := h1; exact DataW.trod_lt m _ _ _ hm
  obtain ⟨A1, len1, c1, rfl⟩ := okWide_slice Tryz.underlying25 (hval 1 25 v1 rfl rfl)
  obtain ⟨l1, rfl, hl1, k1, g1⟩ := opens_slice_arg opens_bytes hsz (j := 1) (t := 25) rfl rfl h1
  obtain ⟨n2, rfl, rfl, rfl, g2⟩ := open_int Tryz.underlying3 (hval 2 3 v2 rfl rfl) h2
  obtain ⟨s3, rfl, rfl, rfl, y3⟩ := open_string Tryz.underlying9 (hval 3 9 v3 rfl rfl) h3
  have g3 : s3.size ≤ 140737488351232 := by
    have z := sized_string hsz (j := 3) (t := 9) rfl rfl
    rw [Array.length_toList] at z
    exact z
  obtain ⟨n4, rfl, rfl, rfl, g4⟩ := open_int Tryz.underlying3 (hval 4 3 v4 rfl rfl) h4
  clear hA0 hval0 hsz0 hsz
  refine (storeManifests_row k0 g0 k1 g1 hl1 g2 g4 s3).mono fun e W' ⟨he, bel⟩ => ?_
  subst he
  exact ⟨_, rfl, _, _, _, [], _, [], hW', trodAll_mk1 (shut_bool Tryz.underlying4 _), (trodAll_cons_mk (Below.trod names_laidOut (by kernel_rfl) (of_decide_eq_true (by kernel_rfl)) h0 bel lt0) (trodAll_cons_mk (Below.trod names_laidOut (by kernel_rfl) (of_decide_eq_true (by kernel_rfl)) h1 bel lt1) (trodAll_cons_mk (shut_int Tryz.underlying3 g2) (trodAll_cons_mk (shut_string Tryz.underlying9 y3) (trodAll_cons_mk (shut_int Tryz.underlying3 g4) trodAll_mk0))))), rfl, bel.frame _, fun h => by cases h⟩
theorem storeManifests_reads (os : Os) {H : Type} (enc : TypeId × Value → H) : ∃ places, DataW.whole enc Tryz.prog ((laidWorld os).forCall (fun _ _ => 0) ⟨#[], #[.agg #[.int .u64 0, .int .u64 0, .int .i64 0], .slice none 0 0, .int .i64 0, .string ByteArray.empty, .int .i64 0], []⟩).memory Tryz.f3.params.toList Rows.storeManifestsSpec.vars false (#[.agg #[.int .u64 0, .int .u64 0, .int .i64 0], .slice none 0 0, .int .i64 0, .string ByteArray.empty, .int .i64 0] : Array Value).toList 8 = some ([.agg [.lit (.int .u64 0), .lit (.int .u64 0), .lit (.int .i64 0)], .nil, .lit (.int .i64 0), .lit (.string []), .lit (.int .i64 0)], [], places) :=
  ⟨[], by kernel_rfl⟩
set_option maxRecDepth 100000 in
theorem storeManifests_lifted (os : Os) (started : os.Started) (H : Type) (enc : TypeId × Value → H) (F : Stop.Interp) :
    ReturnsInHanded {} Tryz.checked os 3 .any ((OpenSpec.ofChange Rows.storeManifestsSpec).preRow enc Tryz.prog Tryz.f3 Rows.storeManifestsRow.domain false Rows.storeManifestsRow.laid) (((OpenSpec.ofChange Rows.storeManifestsSpec).at F).post enc Tryz.prog Tryz.f3 false true false false) := by
  obtain ⟨places, hx⟩ := storeManifests_reads os enc
  refine returnsInHanded_of_row (C := Tryz.checked) (s := OpenSpec.ofChange Rows.storeManifestsSpec) names_own started (by kernel_rfl) Tryz.func3
    (witness_row_atRef (enc := enc) (C := Tryz.checked) false (laidWorld os) #[.agg #[.int .u64 0, .int .u64 0, .int .i64 0], .slice none 0 0, .int .i64 0, .string ByteArray.empty, .int .i64 0] rfl (by kernel_rfl) (by kernel_rfl) (by kernel_rfl)
      (OpenSpec.preRow_of_cond 8 hx (by kernel_rfl) (fun k hk => by cases hk) (by kernel_rfl) (laid_met os _))) ?_
  intro W base args ds gs before hval hW _ hcond hsz hL hsh _
  exact storeManifests_contract H enc W base args ds gs before hval hW hsz (NOK_of hL hsh)
theorem storeManifests_said : Rows.StoreManifestsSaid :=
  OpenClaim.holds_of_cond 3 Tryz.f3 rfl rfl rfl rfl rfl rfl rfl ⟨rfl, rfl, rfl, rfl, rfl⟩ rfl rfl rfl rfl rfl (by kernel_rfl) Tryz.func3 (by kernel_rfl)
    (of_decide_eq_true (by kernel_rfl)) (by unfold Func.isWrapper; first | (rw [if_pos (by decide +kernel)]; kernel_rfl) | (rw [if_neg (by decide +kernel)]; exact ⟨rfl, rfl⟩))
    (fun os started H enc _ F => by rw [OpenClaim.pre_eq_preRow]; exact storeManifests_lifted os started H enc F)
theorem storeManifests_plain (f : FuncId) (fn : Func) (hf : Tryz.pinned.checked.prog.funcNamed "foundry/foundrylaw24.StoreManifests" = some f) (hfn : Tryz.pinned.checked.prog.funcs[f]? = some fn) :
    true = Tryz.pinned.checked.prog.looks [] ∧ ∀ (j : Nat) t, fn.params[j]? = some t → Tryz.pinned.checked.prog.wantsStandIn t = false := by
  obtain rfl : f = 3 := Option.some.inj ((show Tryz.prog.funcNamed "foundry/foundrylaw24.StoreManifests" = some 3 by kernel_rfl).symm.trans hf) |>.symm
  obtain rfl : fn = Tryz.f3 := (Option.some.inj (Tryz.func3.symm.trans hfn)).symm
  refine ⟨by kernel_rfl, fun j t ht => ?_⟩
  rw [Tryz.params3] at ht
  have hm := Array.mem_of_getElem? ht
  have hall : (#[24, 25, 3, 9, 3] : Array Nat).all (fun t => !(Tryz.prog.wantsStandIn t)) = true := by kernel_rfl
  have := Array.all_eq_true'.1 hall t hm
  have h2 : Tryz.prog.wantsStandIn t = false := by simpa using this
  exact h2
/-- The card, for the claim. -/
theorem storeManifests_holds : Rows.StoreManifestsCardSaid :=
  Claim7.holds_tied_plain_at .later [] _ _ _ _ storeManifests_said (fun _ h => by cases h) (by kernel_rfl) (fun _ h => by cases h) storeManifests_row_tie rfl ⟨rfl, rfl⟩ (by kernel_rfl) rfl storeManifests_plain (by kernel_rfl)
#print axioms storeManifests_holds
end Go.Proofs.YticogmpafehomaaGreatDoor
