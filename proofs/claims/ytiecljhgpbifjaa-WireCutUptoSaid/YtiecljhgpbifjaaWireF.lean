/- The document's writers (package foundryref03): Long, Int, Short, Bool, Raw, Text, Ints, Texts. -/
import Derived.Test.YtiecljhgpbifjaaWireO
import Derived.Test.YtiecljhgpbifjaaQStep
set_option linter.unusedVariables false
set_option linter.unusedSimpArgs false
namespace Go.Proofs.Ytiecljhgpbifjaa
open Go.RowKit Go.Proofs.YtiecljhgpbifjaaW.PrintWords

/-- Bytes that a call has made: a row of its own that may begin behind its block's begin. -/
def QB (w : World) (base : Nat) (A : Option Addr) (c : Nat) (xs : List Int) : Prop := QRow w base 5 1 (.slice A xs.length c) xs.length (nums .u8 xs)
theorem QB.reads {w : World} {base : Nat} {A : Option Addr} {c : Nat} {xs : List Int} (h : QB w base A c xs) : ReadsInt w .u8 A xs.length xs := by
  refine ⟨rfl, q_max h, fun hn => ?_⟩
  obtain ⟨ad, he, hc⟩ := q_cells h hn
  exact ⟨ad, he, fun j hj => hc j _ (by simp [nums, List.getD_eq_getElem?_getD, hj])⟩
theorem QB.below {w w1 : World} {base : Nat} {A : Option Addr} {c : Nat} {xs : List Int} (h : QB w base A c xs) (hb : Below w.heap.size w w1) : QB w1 base A c xs := q_move h (fun k hk => hb.block k (q_lt h k hk))
theorem QB.of_R {w : World} {base : Nat} {ok : Nat → Prop} {A : Option Addr} {c : Nat} {xs : List Int} (h : KB.R 5 w base ok (.slice A xs.length c) xs) : QB w base A c xs := q_of_own (R_own1 h)
set_option maxRecDepth 100000 in
theorem rlong_any {w : World} (n : Int) (hn : 0 ≤ n ∧ n < 18446744073709551616) :
  Calls Try.prog 35 #[.int .u64 n] w fun e w' => ∃ A c, e = .returned (.slice A 8 c) ∧ KB.R 5 w' w.heap.size (fun k => w.heap.size ≤ k) (.slice A 8 c) (be n 8) ∧ Below w.heap.size w w' := by
  go_enter Try.func35, Try.ntmps35
  go_wp2
  go_loopw [3, 4] (fun v i wr => ∃ j : Nat, j ≤ 8 ∧ i = .int .i64 (8 * (j : Int) - 8) ∧ KB.R 5 wr w.heap.size (fun k => w.heap.size ≤ k) v ((be n 8).take (8 - j)) ∧ Below w.heap.size w wr) (fun _ i _ => ((intOf i) + 8).toNat)
  case atStart => exact ⟨8, Nat.le_refl _, rfl, Kd.R_nil _ _ _ _ _, Below.refl _ _⟩
  case round =>
    obtain ⟨j, hj, rfl, hR, hB⟩ := hrel
    by_cases h0 : j = 0
    · subst h0
      rw [Nat.sub_zero, List.take_of_length_le (by rw [be_length]; omega)] at hR
      obtain ⟨A, c, hv⟩ := Kd.R_slice hR
      rw [be_length] at hv
      subst hv
      go_wp2
      go_ret
      exact ⟨A, c, rfl, hR, hB⟩
    · have hlt8 : ((be n 8).take (8 - j)).length ≤ 8 := by rw [List.length_take]; omega
      have hstep := be_take (n := n) (m := 8) (j := j) (by omega) hj
      generalize hT : (be n 8).take (8 - j) = T at hR hlt8 hstep
      clear hT
      have hsz := hB.size
      go_wp2_with (at_builtin; refine print_append_num (w0 := wr) w.heap.size rfl (.tmp 9) (.tmp 15) 24 5 .u8 1 rfl Try.underlying24 info_u8 (by decide) _ T (n / 2 ^ (8 * j - 8) % 256) rfl rfl ?HO ?HB ?hb ?hl ?_)
      case HO => exact R_own1 hR
      case HB => exact Below.refl _ _
      case hb => omega
      case hl => omega
      intro v1 w1 ho hB1 hg hat
      have ho' : w1.ownsRow w.heap.size 5 1 v1 ((be n 8).take (8 - (j - 1))).length (nums .u8 ((be n 8).take (8 - (j - 1)))) := by rw [List.length_take]; exact ho
      have hR1 : KB.R 5 w1 w.heap.size (fun k => w.heap.size ≤ k) v1 ((be n 8).take (8 - (j - 1))) := Rown ho' (fun q hq => own_base ho' q hq)
      have hBn : Below w.heap.size w w1 := hB.grown hg hsz (fun k hk => own_base (R_own1 hR) k hk)
      clear ho ho' hg hat hstep hB1
      go_wp2
      go_roundw
      case rel => exact ⟨j - 1, by omega, by congr 1; omega, hR1, hBn⟩
      case measure => simp [intOf]; omega
theorem be_drop (n : Int) (k : Nat) (hk : k ≤ 8) : (be n 8).drop k = be n (8 - k) := by
  apply List.ext_getElem
  · simp [be_length]
  · intro i h1 h2
    simp only [be, List.getElem_drop, List.getElem_map, List.getElem_range]
    congr 3
    omega
theorem QB_cut {w : World} {base g c k : Nat} {x : Int} (h : KB.R 5 w base (fun k => base ≤ k) (.slice (some ⟨g, 0, none⟩) 8 c) (be x 8)) (h0 : 0 < k) (hk : k < 8) : 8 ≤ c ∧ QB w base (some ⟨g, k, none⟩) (c - k) (be x (8 - k)) := by
  have ho := R_own1 h
  rw [be_length] at ho
  have hc := (own_form ho).1
  have hq := q_drop (q_of_own ho) (show k ≤ 8 by omega)
  rw [if_neg (by omega)] at hq
  refine ⟨hc, ?_⟩
  unfold QB
  rw [be_length, ← be_drop x k (by omega)]
  have e1 : (Option.map (fun x : Addr => x.add (k * 1)) (some ⟨g, 0, none⟩)) = some ⟨g, k, none⟩ := by simp [Addr.add]; omega
  have e2 : List.drop (k * 1) (nums .u8 (be x 8)) = nums .u8 ((be x 8).drop k) := by simp [nums, List.map_drop]
  rw [e1, e2] at hq
  exact hq
set_option maxRecDepth 100000 in
theorem rint_any {w : World} (n : Int) :
  Calls Try.prog 34 #[.int .i64 n] w fun e w' => ∃ A c, e = .returned (.slice A 4 c) ∧ QB w' w.heap.size A c (be (n % 2147483648) 4) ∧ Below w.heap.size w w' := by
  have hn := and31 n
  have hb : 0 ≤ n % 2147483648 ∧ n % 2147483648 < 18446744073709551616 := by omega
  generalize n % 2147483648 = x at hn hb ⊢
  go_enter Try.func34, Try.ntmps34
  go_wp2_with fail
  refine (rlong_any x hb).mono ?_
  rintro e w1 ⟨A, c, rfl, hR, hB⟩
  obtain ⟨g, cap, he, hg1, hg2⟩ := (R_own1 hR).form (by rw [be_length]; omega)
  rw [be_length] at he
  injection he with he1 he2 he3
  subst he1
  subst he3
  obtain ⟨hc8, hQ⟩ := QB_cut (k := 4) hR (by omega) (by omega)
  have hne : (c = 4) = False := by simp; omega
  go_wp2
  go_ret
  exact ⟨_, _, rfl, hQ, hB⟩
set_option maxRecDepth 100000 in
theorem rshort_any {w : World} (n : Int) :
  Calls Try.prog 33 #[.int .i64 n] w fun e w' => ∃ A c, e = .returned (.slice A 2 c) ∧ QB w' w.heap.size A c (be (n % 18446744073709551616) 2) ∧ Below w.heap.size w w' := by
  have hn := IntKind.wrap_u64 n
  have hb : 0 ≤ n % 18446744073709551616 ∧ n % 18446744073709551616 < 18446744073709551616 := by omega
  generalize n % 18446744073709551616 = x at hn hb ⊢
  go_enter Try.func33, Try.ntmps33
  go_wp2_with fail
  refine (rlong_any x hb).mono ?_
  rintro e w1 ⟨A, c, rfl, hR, hB⟩
  obtain ⟨g, cap, he, hg1, hg2⟩ := (R_own1 hR).form (by rw [be_length]; omega)
  rw [be_length] at he
  injection he with he1 he2 he3
  subst he1
  subst he3
  obtain ⟨hc8, hQ⟩ := QB_cut (k := 6) hR (by omega) (by omega)
  have hne : (c = 6) = False := by simp; omega
  go_wp2
  go_ret
  exact ⟨_, _, rfl, hQ, hB⟩
set_option maxRecDepth 100000 in
theorem rbool_any {w : World} (x : Bool) :
  Calls Try.prog 32 #[.bool x] w fun e w' => ∃ A c, e = .returned (.slice A 1 c) ∧ QB w' w.heap.size A c [if x = true then 1 else 0] ∧ Below w.heap.size w w' := by
  have hq : ∀ v : Int, QB (w.alloc (.cells #[.int .u8 v] 5)) w.heap.size (some ⟨w.heap.size, 0, none⟩) 1 [v] := fun v =>
    q_of_own (World.ownsRow_lit (base := w.heap.size) (e := 5) (size := 1) w #[.int .u8 v] 1 (Nat.le_refl _) (by simp [maxLen]) rfl)
  have HQ := hid hq
  clear hq
  have hB := fun v : Int => below_alloc (Below.refl w.heap.size w) (.cells #[.int .u8 v] 5)
  cases x with
  | true =>
    go_enter Try.func32, Try.ntmps32
    go_wp2
    go_ret
    exact ⟨_, _, rfl, HQ.out 1, hB 1⟩
  | false =>
    go_enter Try.func32, Try.ntmps32
    go_wp2
    go_ret
    exact ⟨_, _, rfl, HQ.out 0, hB 0⟩
set_option maxRecDepth 100000 in
theorem rraw_any {w : World} {A : Option Addr} {c : Nat} {xs : List Int} (hC : KB.C w A xs.length xs) (hl : xs.length + 16 ≤ 140737488355328) :
  Calls Try.prog 37 #[.slice A xs.length c] w fun e w' => ∃ A c, e = .returned (.slice A (rawB xs).length c) ∧ QB w' w.heap.size A c (rawB xs) ∧ Below w.heap.size w w' := by
  go_enter Try.func37, Try.ntmps37
  go_wp2_with fail
  refine (rint_any (xs.length : Int)).mono ?_
  rintro e w1 ⟨A1, c1, rfl, hQ, hB⟩
  have hC1 := C_int (Kd.C_below hC hB)
  have hl4 : (be ((xs.length : Int) % 2147483648) 4).length = 4 := be_length _ _
  have hsz := hB.size
  generalize hx : be ((xs.length : Int) % 2147483648) 4 = hd at hQ hl4
  have HX := hid hx
  clear hx
  go_wp2_with (at_builtin; refine append_q_row (w0 := w1) w.heap.size rfl (.tmp 5) (.tmp 6) 24 5 .u8 1 rfl Try.underlying24 info_u8 (by decide) _ hd xs A xs.length c rfl rfl ?HO ?HR ?HB ?hb ?hl ?_)
  case HO => have h := hQ; unfold QB at h; rw [hl4] at h ⊢; exact h
  case HR => exact hC1
  case HB => exact Below.refl _ _
  case hb => omega
  case hl => omega
  intro v1 w2 ho hB1 hg hat
  obtain ⟨A2, c2, rfl, hle⟩ := q_slice ho
  have hlen : (rawB xs).length = 4 + xs.length := rawB_length xs
  have hfin : QB w2 w.heap.size A2 c2 (rawB xs) := by unfold QB; rw [hlen]; unfold rawB; rw [HX.out]; exact ho
  have hBn : Below w.heap.size w w2 := hB.grown hg hsz (fun k hk => (q_typed hQ k (by rw [hl4]; exact hk)).1)
  clear ho hg hat
  go_wp2
  go_ret
  rw [hlen]
  exact ⟨A2, c2, rfl, hfin, hBn⟩
set_option maxRecDepth 100000 in
theorem rtext_any {w : World} (s : ByteArray) (hl : s.size + 16 ≤ 140737488355328) :
  Calls Try.prog 36 #[.string s] w fun e w' => ∃ A c, e = .returned (.slice A (rawB (bytesOf s)).length c) ∧ QB w' w.heap.size A c (rawB (bytesOf s)) ∧ Below w.heap.size w w' := by
  have hcv := fun W => print_bytes (P := Try.prog) 9 24 5 Try.underlying9 Try.underlying24 Try.underlying5 s W
  go_enter Try.func36, Try.ntmps36
  go_wp2_with fail
  refine (rint_any (s.size : Int)).mono ?_
  rintro e w1 ⟨A1, c1, rfl, hQ, hB⟩
  have hBx := bytes_below (Below.refl w1.heap.size w1) (Nat.le_refl _) 5 s
  have hrd := bytes_reads w1 5 s (by omega)
  have hQ1 := hQ.below hBx
  have hl4 : (be ((s.size : Int) % 2147483648) 4).length = 4 := be_length _ _
  have hsz := hB.size
  have hszx := hBx.size
  generalize hx : be ((s.size : Int) % 2147483648) 4 = hd at hQ1 hl4 hQ
  have HX := hid hx
  clear hx
  go_wp2_with (at_builtin; refine append_q_row (w0 := Lib.bytesWorld w1 5 s) w.heap.size rfl (.tmp 5) (.tmp 7) 24 5 .u8 1 rfl Try.underlying24 info_u8 (by decide) _ hd (bytesOf s) (some ⟨w1.heap.size, 0, none⟩) s.size (grownCap w1 s.size 0 5) rfl rfl ?HO ?HR ?HB ?hb ?hl ?_)
  case HO => have h := hQ1; unfold QB at h; rw [hl4] at h ⊢; exact h
  case HR => exact hrd
  case HB => exact Below.refl _ _
  case hb => omega
  case hl => omega
  intro v1 w2 ho hB1 hg hat
  obtain ⟨A2, c2, rfl, hle⟩ := q_slice ho
  have hlen : (rawB (bytesOf s)).length = 4 + s.size := by rw [rawB_length, bytesOf_length]
  have hfin : QB w2 w.heap.size A2 c2 (rawB (bytesOf s)) := by
    unfold QB; rw [hlen]; unfold rawB; rw [bytesOf_length, HX.out]
    simpa [hl4, bytesOf_length] using ho
  have hBn : Below w.heap.size w w2 := (hB.trans (hBx.mono hsz)).grown hg (by omega) (fun k hk => (q_typed hQ1 k (by rw [hl4]; exact hk)).1)
  clear hcv hrd hg hat
  rw [bytesOf_length] at hle ⊢
  clear ho
  go_wp2
  go_ret
  rw [hlen]
  exact ⟨A2, c2, rfl, hfin, hBn⟩
set_option maxRecDepth 100000 in
theorem rints_any {w : World} {A : Option Addr} {c : Nat} {l : List Int} (hC : (Kd.int .i64).C w A l.length l) (hl : (intsB l).length + 16 ≤ 140737488355328) (hl2 : l.length ≤ 140737488355328) :
  Calls Try.prog 38 #[.slice A l.length c] w fun e w' => ∃ A c, e = .returned (.slice A (intsB l).length c) ∧ QB w' w.heap.size A c (intsB l) ∧ Below w.heap.size w w' := by
  have hle : (intsB l).length = 4 + (l.flatMap fun n => be (n % 2147483648) 4).length := by unfold intsB; rw [List.length_append, be_length]
  go_enter Try.func38, Try.ntmps38
  go_wp2_with fail
  refine (rint_any (l.length : Int)).mono ?_
  rintro e w1 ⟨A1, c1, rfl, hQ, hB⟩
  have hl4 : (be ((l.length : Int) % 2147483648) 4).length = 4 := be_length _ _
  generalize hx : be ((l.length : Int) % 2147483648) 4 = hd at hQ hl4
  have HX := hid hx
  clear hx
  have HLE := hid hle
  have HL := hid hl
  clear hle hl
  go_wp2_with fail
  go_loopw [3, 4] (fun v i wr => ∃ (k L : Nat) (A : Option Addr) (c : Nat) (cur : List Int), k ≤ l.length ∧ i = .int .i64 k ∧ v = .slice A L c ∧ L = cur.length ∧ Hid (cur = hd ++ (l.take k).flatMap fun n => be (n % 2147483648) 4) ∧ QB wr w.heap.size A c cur ∧ Below w.heap.size w wr) (fun _ i _ => l.length - (intOf i).toNat)
  case atStart => exact ⟨0, 4, A1, c1, hd, Nat.zero_le _, rfl, rfl, hl4.symm, hid (by simp), hQ, hB⟩
  case round =>
    obtain ⟨k, L, A2, c2, cur, hk, rfl, rfl, rfl, HC, hQk, hBk⟩ := hrel
    by_cases hlt : k < l.length
    · obtain ⟨ad, rfl, hcell⟩ := (Kd.reads_of_C (enc := Value.int .i64) (d := (0 : Int)) (h1 := fun _ => rfl) (Kd.C_below hC hBk)).at_ (k : Int) (by omega) (by omega)
      simp only [Int.toNat_natCast] at hcell
      have hlw : (k : Int) < (l.length : Int) := by omega
      have hrd : rdOf 0 l k = l[k] := by simp [rdOf, List.getD_eq_getElem?_getD, hlt]
      rw [hrd] at hcell
      have hcl : cur.length + 4 ≤ 140737488355328 := by
        have h1 := flat_get_le hlt (fun n => be (n % 2147483648) 4)
        rw [be_length] at h1
        have h2 := HLE.out
        have h3 := HL.out
        have h4 : cur.length = 4 + ((l.take k).flatMap fun n => be (n % 2147483648) 4).length := by rw [HC.out, List.length_append, hl4]
        omega
      have hsz := hBk.size
      go_wp2_with fail
      refine (rint_any l[k]).mono ?_
      rintro e w2 ⟨A3, c3, rfl, hQ3, hB3⟩
      have hQ2 := hQk.below hB3
      have hrd3 := hQ3.reads
      have hl43 : (be (l[k] % 2147483648) 4).length = 4 := be_length _ _
      rw [hl43] at hrd3
      have hstep : cur ++ be (l[k] % 2147483648) 4 = hd ++ (l.take (k + 1)).flatMap fun n => be (n % 2147483648) 4 := by
        rw [HC.out, List.append_assoc, flat_take_succ hlt (fun n => be (n % 2147483648) 4)]
      have HS := hid hstep
      clear hstep
      generalize be (l[k] % 2147483648) 4 = nw at hrd3 hl43 HS hQ3
      go_wp2_with (at_builtin; refine append_q_row (w0 := w2) w.heap.size rfl (.tmp 14) (.tmp 19) 24 5 .u8 1 rfl Try.underlying24 info_u8 (by decide) _ cur nw A3 4 c3 rfl rfl ?HO ?HR ?HB ?hb ?hl ?_)
      case HO => exact hQ2
      case HR => exact hrd3
      case HB => exact Below.refl _ _
      case hb => have := hB3.size; omega
      case hl => omega
      intro v1 w3 ho hB4 hg hat
      obtain ⟨A4, c4, rfl, hle4⟩ := q_slice ho
      have hlen4 : (cur ++ nw).length = cur.length + 4 := by rw [List.length_append, hl43]
      have hQn : QB w3 w.heap.size A4 c4 (cur ++ nw) := by unfold QB; rw [hlen4]; simpa [hl43] using ho
      have hBn : Below w.heap.size w w3 := (hBk.trans (hB3.mono hsz)).grown hg (by have := hB3.size; omega) (fun k hk => (q_typed hQ2 k hk).1)
      clear ho hg hat hcell
      generalize cur ++ nw = cn at hQn hlen4 HS
      go_wp2
      go_roundw
      case rel => exact ⟨k + 1, cur.length + 4, A4, c4, cn, by omega, by go_num, rfl, hlen4.symm, HS, hQn, hBn⟩
      case measure => simp [intOf]; omega
    · obtain rfl : k = l.length := by omega
      have hcur : cur = intsB l := by rw [HC.out, List.take_length]; unfold intsB; rw [HX.out]
      subst hcur
      go_wp2
      go_ret
      exact ⟨A2, c2, rfl, hQk, hBk⟩
set_option maxRecDepth 100000 in
theorem rtexts_any {w : World} {A : Option Addr} {c : Nat} {l : List ByteArray} (hC : Kd.string.C w A l.length l) (hl : (textsB l).length + 16 ≤ 140737488355328) (hl2 : l.length ≤ 140737488355328) :
  Calls Try.prog 39 #[.slice A l.length c] w fun e w' => ∃ A c, e = .returned (.slice A (textsB l).length c) ∧ QB w' w.heap.size A c (textsB l) ∧ Below w.heap.size w w' := by
  have hle : (textsB l).length = 4 + (l.flatMap fun s => rawB (bytesOf s)).length := by unfold textsB; rw [List.length_append, be_length]
  go_enter Try.func39, Try.ntmps39
  go_wp2_with fail
  refine (rint_any (l.length : Int)).mono ?_
  rintro e w1 ⟨A1, c1, rfl, hQ, hB⟩
  have hl4 : (be ((l.length : Int) % 2147483648) 4).length = 4 := be_length _ _
  generalize hx : be ((l.length : Int) % 2147483648) 4 = hd at hQ hl4
  have HX := hid hx
  clear hx
  have HLE := hid hle
  have HL := hid hl
  clear hle hl
  go_wp2_with fail
  go_loopw [3, 4] (fun v i wr => ∃ (k L : Nat) (A : Option Addr) (c : Nat) (cur : List Int), k ≤ l.length ∧ i = .int .i64 k ∧ v = .slice A L c ∧ L = cur.length ∧ Hid (cur = hd ++ (l.take k).flatMap fun s => rawB (bytesOf s)) ∧ QB wr w.heap.size A c cur ∧ Below w.heap.size w wr) (fun _ i _ => l.length - (intOf i).toNat)
  case atStart => exact ⟨0, 4, A1, c1, hd, Nat.zero_le _, rfl, rfl, hl4.symm, hid (by simp), hQ, hB⟩
  case round =>
    obtain ⟨k, L, A2, c2, cur, hk, rfl, rfl, rfl, HC, hQk, hBk⟩ := hrel
    by_cases hlt : k < l.length
    · obtain ⟨ad, rfl, hcell⟩ := (Kd.reads_of_C (enc := Value.string) (d := ByteArray.empty) (h1 := fun _ => rfl) (Kd.C_below hC hBk)).at_ (k : Int) (by omega) (by omega)
      simp only [Int.toNat_natCast] at hcell
      have hlw : (k : Int) < (l.length : Int) := by omega
      have hrd : rdOf ByteArray.empty l k = l[k] := by simp [rdOf, List.getD_eq_getElem?_getD, hlt]
      rw [hrd] at hcell
      have hcl : cur.length + (rawB (bytesOf l[k])).length + 16 ≤ 140737488355328 ∧ l[k].size + 16 ≤ 140737488355328 := by
        have h1 := flat_get_le hlt (fun s => rawB (bytesOf s))
        rw [rawB_length, bytesOf_length] at h1
        rw [rawB_length, bytesOf_length]
        have h2 := HLE.out
        have h3 := HL.out
        have h4 : cur.length = 4 + ((l.take k).flatMap fun s => rawB (bytesOf s)).length := by rw [HC.out, List.length_append, hl4]
        omega
      have hsz := hBk.size
      go_wp2_with fail
      refine (rtext_any l[k] hcl.2).mono ?_
      rintro e w2 ⟨A3, c3, rfl, hQ3, hB3⟩
      have hQ2 := hQk.below hB3
      have hrd3 := hQ3.reads
      have hstep : cur ++ rawB (bytesOf l[k]) = hd ++ (l.take (k + 1)).flatMap fun s => rawB (bytesOf s) := by
        rw [HC.out, List.append_assoc, flat_take_succ hlt (fun s => rawB (bytesOf s))]
      have HS := hid hstep
      clear hstep
      generalize rawB (bytesOf l[k]) = nw at hrd3 HS hQ3 hcl
      go_wp2_with (at_builtin; refine append_q_row (w0 := w2) w.heap.size rfl (.tmp 14) (.tmp 19) 24 5 .u8 1 rfl Try.underlying24 info_u8 (by decide) _ cur nw A3 nw.length c3 rfl rfl ?HO ?HR ?HB ?hb ?hl ?_)
      case HO => exact hQ2
      case HR => exact hrd3
      case HB => exact Below.refl _ _
      case hb => have := hB3.size; omega
      case hl => omega
      intro v1 w3 ho hB4 hg hat
      obtain ⟨A4, c4, rfl, hle4⟩ := q_slice ho
      have hlen4 : (cur ++ nw).length = cur.length + nw.length := by rw [List.length_append]
      have hQn : QB w3 w.heap.size A4 c4 (cur ++ nw) := by unfold QB; rw [hlen4]; simpa using ho
      have hBn : Below w.heap.size w w3 := (hBk.trans (hB3.mono hsz)).grown hg (by have := hB3.size; omega) (fun k hk => (q_typed hQ2 k hk).1)
      clear ho hg hat hcell
      generalize cur ++ nw = cn at hQn hlen4 HS
      go_wp2
      go_roundw
      case rel => exact ⟨k + 1, cur.length + nw.length, A4, c4, cn, by omega, by go_num, rfl, hlen4.symm, HS, hQn, hBn⟩
      case measure => simp [intOf]; omega
    · obtain rfl : k = l.length := by omega
      have hcur : cur = textsB l := by rw [HC.out, List.take_length]; unfold textsB; rw [HX.out]
      subst hcur
      go_wp2
      go_ret
      exact ⟨A2, c2, rfl, hQk, hBk⟩
end Go.Proofs.Ytiecljhgpbifjaa
