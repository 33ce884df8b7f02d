/- foundrylaw03.back: behind what was written it answers true; of a part of it the reader fails. WireBack answers true. -/
import Derived.Test.YtiecljhgpbifjaaLaw03B
set_option linter.unusedVariables false
set_option linter.unusedSimpArgs false
namespace Go.Proofs.Ytiecljhgpbifjaa
open Go.RowKit Go.Proofs.YtiecljhgpbifjaaW.PrintWords

theorem BackR.good {α : Type} {ok : Nat → Prop} {p : Nat} {w w' : World} {s : St} {o : Out α} {z v : α} {y : Prop} {e : Ending} {rest : List Int} (h : BackR ok p w s o z y e w') (he : s.e = 0) (ho : o = .ok (v, rest)) (hy : s.out o z = v → y) :
    e = .returned (.bool true) ∧ PSt w' ok p ⟨rest, 0⟩ ∧ Chg (fun k => k = p) w w' := by
  obtain ⟨u, h1, h2, h3, h4⟩ := h
  obtain ⟨t1, t2⟩ := took_ok (z := z) he ho
  have := h2 (hy t2)
  subst this
  rw [t1] at h3
  exact ⟨h1, h3, h4⟩
theorem BackR.bad {α : Type} {ok : Nat → Prop} {p : Nat} {w w' : World} {s : St} {o : Out α} {z : α} {y : Prop} {e : Ending} (h : BackR ok p w s o z y e w') (he : s.e = 0) (ho : o = .error 40) :
    (∃ v, e = .returned (.bool v)) ∧ PSt w' ok p ⟨[], 40⟩ ∧ Chg (fun k => k = p) w w' := by
  obtain ⟨u, h1, h2, h3, h4⟩ := h
  obtain ⟨t1, _⟩ := took_err (z := z) he ho
  rw [t1] at h3
  exact ⟨⟨u, h1⟩, h3, h4⟩
theorem str_bytes (s : ByteArray) : strOfNums (bytesOf s) = s := by
  rcases s with ⟨⟨l⟩⟩
  simp [strOfNums, bytesOf, List.map_map, Function.comp_def]
theorem text_le {t : List ByteArray} {x : ByteArray} (h : x ∈ t) : x.size + 1 ≤ (t.map (fun s => s.size + 1)).sum := by
  induction t with
  | nil => cases h
  | cons a r ih =>
    simp only [List.map_cons, List.sum_cons]
    rcases List.mem_cons.1 h with e | e
    · subst e; omega
    · have := ih e; omega
theorem texts_le (t : List ByteArray) : t.length ≤ (t.map (fun s => s.size + 1)).sum := by
  induction t with
  | nil => simp
  | cons a r ih => simp only [List.map_cons, List.sum_cons, List.length_cons]; omega
theorem B1 {o : OQ} (k1 : o.kind = 1) : o.B = [o.n % 256] := by unfold OQ.B; rw [if_pos k1]
theorem B2 {o : OQ} (k : o.kind = 2) : o.B = [if decide (o.n % 2 = 1) = true then 1 else 0] := by unfold OQ.B; rw [if_neg (by omega), if_pos k]; simp
theorem B3 {o : OQ} (k : o.kind = 3) : o.B = be o.n 2 := by unfold OQ.B; rw [if_neg (by omega), if_neg (by omega), if_pos k]
theorem B4 {o : OQ} (k : o.kind = 4) : o.B = be (o.n % 2147483648) 4 := by unfold OQ.B; rw [if_neg (by omega), if_neg (by omega), if_neg (by omega), if_pos k]
theorem B5 {o : OQ} (k : o.kind = 5) : o.B = be o.n 8 := by unfold OQ.B; rw [if_neg (by omega), if_neg (by omega), if_neg (by omega), if_neg (by omega), if_pos k]
theorem B6 {o : OQ} (k : o.kind = 6) : o.B = rawB (bytesOf o.s) := by unfold OQ.B; rw [if_neg (by omega), if_neg (by omega), if_neg (by omega), if_neg (by omega), if_neg (by omega), if_pos k]
theorem B7 {o : OQ} (k : o.kind = 7) : o.B = rawB (bytesOf o.s) := by unfold OQ.B; rw [if_neg (by omega), if_neg (by omega), if_neg (by omega), if_neg (by omega), if_neg (by omega), if_neg (by omega), if_pos k]
theorem B8 {o : OQ} (k : o.kind = 8) : o.B = intsB o.l := by unfold OQ.B; rw [if_neg (by omega), if_neg (by omega), if_neg (by omega), if_neg (by omega), if_neg (by omega), if_neg (by omega), if_neg (by omega), if_pos k]
theorem B9 {o : OQ} (k : o.kind = 9) : o.B = textsB o.t := by unfold OQ.B; rw [if_neg (by omega), if_neg (by omega), if_neg (by omega), if_neg (by omega), if_neg (by omega), if_neg (by omega), if_neg (by omega), if_neg (by omega), if_pos k]
theorem B10 {o : OQ} (k : ¬ (1 ≤ o.kind ∧ o.kind ≤ 9)) : o.B = [] := by unfold OQ.B; rw [if_neg (by omega), if_neg (by omega), if_neg (by omega), if_neg (by omega), if_neg (by omega), if_neg (by omega), if_neg (by omega), if_neg (by omega), if_neg (by omega)]
section
variable {w : World} {ok : Nat → Prop} {p : Nat} {A A2 : Option Addr} {c c2 : Nat}
theorem back_good (o : OQ) (ho : o.ok) (hm : o.m ≤ 1048576) {rest : List Int} (h : PSt w ok p ⟨o.B ++ rest, 0⟩) (hok : ∀ k, ok k → k < w.heap.size)
    (hC1 : ∀ w', Chg (fun k => k = p) w w' → (Kd.int .i64).C w' A o.l.length o.l) (hC2 : ∀ w', Chg (fun k => k = p) w w' → Kd.string.C w' A2 o.t.length o.t) :
  Calls Try.prog 21 #[.pointer (some ⟨p, 0, none⟩), oqAgg o A c A2 c2] w fun e w' => e = .returned (.bool true) ∧ PSt w' ok p ⟨rest, 0⟩ ∧ Chg (fun k => k = p) w w' := by
  have hmt := texts_le o.t
  unfold OQ.m at hm
  have p256 : (256 : Int) ^ 2 = 65536 := by decide
  have p256' : (256 : Int) ^ 8 = 18446744073709551616 := by decide
  by_cases k1 : o.kind = 1
  · rw [B1 k1] at h
    exact (back1 o ho h hok k1).mono (fun e w' hb => hb.good rfl ((p_byte _).all rest) (fun h => h))
  by_cases k2 : o.kind = 2
  · rw [B2 k2] at h
    exact (back2 o ho h hok k2).mono (fun e w' hb => hb.good rfl ((p_bool _).all rest) (fun h => h))
  by_cases k3 : o.kind = 3
  · rw [B3 k3] at h
    exact (back3 o ho h hok k3).mono (fun e w' hb => hb.good rfl ((p_num 2 o.n ho.n.1).all rest) (fun h => by rw [h, p256]))
  by_cases k4 : o.kind = 4
  · rw [B4 k4] at h
    exact (back4 o ho h hok k4).mono (fun e w' hb => hb.good rfl ((p_int o.n).all rest) (fun h => h))
  by_cases k5 : o.kind = 5
  · rw [B5 k5] at h
    exact (back5 o ho h hok k5).mono (fun e w' hb => hb.good rfl ((p_num 8 o.n ho.n.1).all rest) (fun h => by rw [h, p256']; exact Int.emod_eq_of_lt ho.n.1 ho.n.2))
  by_cases k6 : o.kind = 6
  · rw [B6 k6] at h
    exact (back6 o ho h hok k6).mono (fun e w' hb => hb.good rfl ((p_text o.s (by omega)).all rest) (fun h => h))
  by_cases k7 : o.kind = 7
  · rw [B7 k7] at h
    exact (back7 o ho h hok k7).mono (fun e w' hb => hb.good rfl ((p_raw (bytesOf o.s) (by rw [bytesOf_length]; omega)).all rest) (fun h => by rw [h, str_bytes]))
  by_cases k8 : o.kind = 8
  · rw [B8 k8] at h
    have hp := (p_ints o.l (by omega)).all rest
    exact (back8good o ho h hok k8 hC1 (took_ok (z := []) (s := ⟨intsB o.l ++ rest, 0⟩) rfl hp).2).mono (fun e w' hb => hb.good rfl hp (fun _ => trivial))
  by_cases k9 : o.kind = 9
  · rw [B9 k9] at h
    have hp := (p_texts o.t (by omega) (fun x hx => by have := text_le hx; omega)).all rest
    exact (back9good o ho h hok k9 hC2 (took_ok (z := []) (s := ⟨textsB o.t ++ rest, 0⟩) rfl hp).2).mono (fun e w' hb => hb.good rfl hp (fun _ => trivial))
  have k10 : ¬ (1 ≤ o.kind ∧ o.kind ≤ 9) := by omega
  rw [B10 k10] at h
  exact back10 o ho h hok k10
theorem back_bad (o : OQ) (ho : o.ok) (hm : o.m ≤ 1048576) {j : Nat} (hj : j < o.B.length) (h : PSt w ok p ⟨o.B.take j, 0⟩) (hok : ∀ k, ok k → k < w.heap.size)
    (hC1 : ∀ w', Chg (fun k => k = p) w w' → (Kd.int .i64).C w' A o.l.length o.l) (hC2 : ∀ w', Chg (fun k => k = p) w w' → Kd.string.C w' A2 o.t.length o.t) :
  Calls Try.prog 21 #[.pointer (some ⟨p, 0, none⟩), oqAgg o A c A2 c2] w fun e w' => (∃ v, e = .returned (.bool v)) ∧ PSt w' ok p ⟨[], 40⟩ ∧ Chg (fun k => k = p) w w' := by
  have hmt := texts_le o.t
  unfold OQ.m at hm
  by_cases k1 : o.kind = 1
  · rw [B1 k1] at h hj
    exact (back1 o ho h hok k1).mono (fun e w' hb => hb.bad rfl ((p_byte _).cut j hj))
  by_cases k2 : o.kind = 2
  · rw [B2 k2] at h hj
    exact (back2 o ho h hok k2).mono (fun e w' hb => hb.bad rfl ((p_bool _).cut j hj))
  by_cases k3 : o.kind = 3
  · rw [B3 k3] at h hj
    exact (back3 o ho h hok k3).mono (fun e w' hb => hb.bad rfl ((p_num 2 o.n ho.n.1).cut j hj))
  by_cases k4 : o.kind = 4
  · rw [B4 k4] at h hj
    exact (back4 o ho h hok k4).mono (fun e w' hb => hb.bad rfl ((p_int o.n).cut j hj))
  by_cases k5 : o.kind = 5
  · rw [B5 k5] at h hj
    exact (back5 o ho h hok k5).mono (fun e w' hb => hb.bad rfl ((p_num 8 o.n ho.n.1).cut j hj))
  by_cases k6 : o.kind = 6
  · rw [B6 k6] at h hj
    exact (back6 o ho h hok k6).mono (fun e w' hb => hb.bad rfl ((p_text o.s (by omega)).cut j hj))
  by_cases k7 : o.kind = 7
  · rw [B7 k7] at h hj
    exact (back7 o ho h hok k7).mono (fun e w' hb => hb.bad rfl ((p_raw (bytesOf o.s) (by rw [bytesOf_length]; omega)).cut j hj))
  by_cases k8 : o.kind = 8
  · rw [B8 k8] at h hj
    have hp := (p_ints o.l (by omega)).cut j hj
    exact (back8bad o ho h hok k8 (took_err (z := []) (s := ⟨(intsB o.l).take j, 0⟩) rfl hp).2).mono (fun e w' hb => hb.bad rfl hp)
  by_cases k9 : o.kind = 9
  · rw [B9 k9] at h hj
    have hp := (p_texts o.t (by omega) (fun x hx => by have := text_le hx; omega)).cut j hj
    exact (back9bad o ho h hok k9 hC2 (took_err (z := []) (s := ⟨(textsB o.t).take j, 0⟩) rfl hp).2).mono (fun e w' hb => hb.bad rfl hp)
  have k10 : ¬ (1 ≤ o.kind ∧ o.kind ≤ 9) := by omega
  rw [B10 k10] at hj
  simp at hj
end
theorem allB_drop {l : List OQ} {k : Nat} (h : k < l.length) : allB (l.drop k) = l[k].B ++ allB (l.drop (k + 1)) := by
  rw [List.drop_eq_getElem_cons h]
  rfl
theorem m_mem {l : List OQ} {o : OQ} (h : o ∈ l) : o.m ≤ (l.map OQ.m).sum := by
  induction l with
  | nil => cases h
  | cons a r ih =>
    simp only [List.map_cons, List.sum_cons]
    rcases List.mem_cons.1 h with e | e
    · subst e; omega
    · have := ih e; omega
end Go.Proofs.Ytiecljhgpbifjaa
