/- Package foundrylaw21: an Op as memory has it; DiskReplays, the plain law. -/
import Derived.Test.YtpgiooheoafieaaLaw21c
set_option linter.unusedVariables false
set_option linter.unusedSimpArgs false
namespace Go.Proofs.Ytpgiooheoafieaa
open Go.RowKit Go.Proofs.YtpgiooheoafieaaW.PrintWords

structure OP where
  kind : Int
  at_ : Int
  n : Int
  fill : Int
  bytes : List Int
  odd : Bool
structure OP.ok (o : OP) : Prop where
  a1 : -9223372036854775808 ≤ o.at_
  a2 : o.at_ ≤ 9223372036854775807
  n1 : -9223372036854775808 ≤ o.n
  n2 : o.n ≤ 9223372036854775807
  f : 0 ≤ o.fill ∧ o.fill < 256
  b : Bytes o.bytes
  l : o.bytes.length ≤ 140737488351232
abbrev KOp : Kd OP := Kd.iso (Kd.pair (Kd.int .i64) (Kd.pair (Kd.int .i64) (Kd.pair (Kd.int .i64) (Kd.pair (Kd.int .u8) (Kd.pair (Kd.slice 5 KB) Kd.bool))))) (fun x : OP => (x.kind, x.at_, x.n, x.fill, x.bytes, x.odd))
def OP.block (o : OP) : List Int := opBlock o.fill o.bytes o.odd
def OP.cells (o : OP) (A : Option Addr) (c : Nat) : List Value := [.int .i64 o.kind, .int .i64 o.at_, .int .i64 o.n, .int .u8 o.fill, .slice A o.bytes.length c, .bool o.odd]
theorem KOp_open {w : World} {o : OP} {cs : List Value} (h : KOp.K w o cs) : ∃ A c, cs = o.cells A c ∧ o.bytes.length ≤ c ∧ KB.C w A o.bytes.length o.bytes := by
  obtain ⟨c0, cs1, rfl, h0, c1, cs2, rfl, h1, c2, cs3, rfl, h2, c3, cs4, rfl, h3, c4, c5, rfl, ⟨A, c, h4, hl, hC⟩, h5⟩ := h
  obtain rfl : c0 = [.int .i64 o.kind] := h0
  obtain rfl : c1 = [.int .i64 o.at_] := h1
  obtain rfl : c2 = [.int .i64 o.n] := h2
  obtain rfl : c3 = [.int .u8 o.fill] := h3
  obtain rfl : c5 = [.bool o.odd] := h5
  subst h4
  exact ⟨A, c, rfl, hl, hC⟩
theorem op_at {w : World} {ad : Addr} {l : List OP} (h : KOp.C w (some ad) l.length l) {i : Nat} (hi : i < l.length) :
    ∃ A c, (∀ j v, (l[i].cells A c)[j]? = some v → w.cell? ((ad.add (i * 6)).add j) = some v) ∧ KB.C w A l[i].bytes.length l[i].bytes := by
  obtain ⟨ad', cs, hA, hcs, hK, hcell⟩ := Kd.C_get h ⟨0, 0, 0, 0, [], false⟩ (i : Int) (by omega) (by omega)
  injection hA with hA
  subst hA
  simp only [Int.toNat_natCast] at hK hcell
  have hget : l.getD i ⟨0, 0, 0, 0, [], false⟩ = l[i] := by simp [List.getD_eq_getElem?_getD, hi]
  rw [hget] at hK
  obtain ⟨A, c, rfl, hl, hC⟩ := KOp_open hK
  refine ⟨A, c, fun j v hj => ?_, hC⟩
  have h3 := hcell j v hj
  have hadd : (ad.add (i * 6)).add j = ad.add (i * 6 + j) := by
    unfold Addr.add
    by_cases e1 : i * 6 = 0 <;> by_cases e2 : j = 0 <;> simp [e1, e2, Nat.add_assoc]
  rw [hadd]
  exact h3

/-! ### DiskReplays: the plain law -/
def Z16 : List Int := List.replicate 1024 0
/-- What both disks are, n writes being let to the second. -/
structure RInv (n : Nat) (k : Nat) (D C : DM) : Prop where
  dl : D.left < 0
  dg : D.gone = false
  dn : D.n = 16
  cn : C.n = 16
  db : D.b = lay Z16 D.ws
  cb : C.b = lay Z16 C.ws
  cw : C.ws = D.ws.take n
  cg : C.gone = decide (n < D.ws.length)
  cl : C.left = (n : Int) - min n D.ws.length
  le : D.ws.length ≤ k
theorem rinv_start (n : Nat) : RInv n 0 (DM.new 16) ((DM.new 16).cut n) :=
  ⟨by show (-1 : Int) < 0; omega, rfl, new_n 16, new_n 16, rfl, rfl, List.take_nil.symm, by show false = decide (n < 0); simp,
    by show (if (n : Int) < -1 then -1 else (n : Int)) = (n : Int) - min n 0; rw [if_neg (by omega)]; simp, Nat.le_refl 0⟩
theorem rinv_skip {n k : Nat} {D C : DM} (h : RInv n k D C) : RInv n (k + 1) D C := { h with le := Nat.le_succ_of_le h.le }
theorem lay_snoc (b : List Int) (l : List (Int × List Int)) (x : Int × List Int) : lay b (l ++ [x]) = splice (lay b l) (x.1.toNat * 64) x.2 := by simp [lay]
theorem splice_n {D : DM} (hw : D.wf) {i : Int} {xs : List Int} (hx : xs.length = 64) (h0 : 0 ≤ i) (hi : i < D.n) : (splice D.b (i.toNat * 64) xs).length = D.b.length := by
  have := hw.len
  exact length_splice _ _ _ (by omega)
theorem rinv_step {n k : Nat} {D C : DM} (h : RInv n k D C) (hD : D.wf) (hC : C.wf) (i : Int) (xs : List Int) : RInv n (k + 1) (D.writeD i xs) (C.writeD i xs) ∧ (D.writeE i xs = C.writeE i xs ∨ C.writeE i xs = 61) := by
  have hd1 : D.ready i = if i < 0 ∨ 16 ≤ i then 60 else 0 := by unfold DM.ready; rw [h.dg, h.dn]; rfl
  have hc1 : C.ready i = if n < D.ws.length then 61 else D.ready i := by
    rw [hd1]; unfold DM.ready; rw [h.cg, h.cn]
    by_cases hn : n < D.ws.length
    · rw [if_pos (by simpa using hn), if_pos hn]
    · rw [if_neg (by simpa using hn), if_neg hn]; rfl
  by_cases hr : D.ready i = 0
  · have hi : 0 ≤ i ∧ i < 16 := by
      rw [hd1] at hr
      split at hr
      · simp at hr
      · omega
    by_cases hx : xs.length = 64
    · have hdE : D.writeE i xs = 0 := by unfold DM.writeE; rw [if_neg (by rw [hr]; simp), if_neg (by rw [hx]; simp), if_neg (by have := h.dl; omega)]
      have hdD : D.writeD i xs = { b := splice D.b (i.toNat * 64) xs, left := D.left, gone := D.gone, ws := D.ws ++ [(i, xs)] } := by
        unfold DM.writeD; rw [if_neg (by rw [hr]; simp), if_neg (by rw [hx]; simp), if_neg (by have := h.dl; omega), if_neg (by have := h.dl; omega)]
      have hsD := splice_n hD hx hi.1 (by rw [h.dn]; exact hi.2)
      have hsC := splice_n hC hx hi.1 (by rw [h.cn]; exact hi.2)
      have hnD : (splice D.b (i.toNat * 64) xs).length / 64 = 16 := by rw [hsD]; exact h.dn
      have hnC : (splice C.b (i.toNat * 64) xs).length / 64 = 16 := by rw [hsC]; exact h.cn
      have hdb : splice D.b (i.toNat * 64) xs = lay Z16 (D.ws ++ [(i, xs)]) := by rw [lay_snoc, ← h.db]
      by_cases hn : n < D.ws.length
      · have hcr : C.ready i = 61 := by rw [hc1, if_pos hn]
        have hcE : C.writeE i xs = 61 := by unfold DM.writeE; rw [if_pos (by rw [hcr]; simp), hcr]
        have hcD : C.writeD i xs = C := by unfold DM.writeD; rw [if_pos (by rw [hcr]; simp)]
        rw [hcE, hcD, hdD]
        refine ⟨⟨h.dl, h.dg, hnD, h.cn, hdb, h.cb, ?_, ?_, ?_, ?_⟩, .inr rfl⟩
        · show C.ws = (D.ws ++ [(i, xs)]).take n
          rw [List.take_append_of_le_length (by omega)]; exact h.cw
        · show C.gone = decide (n < (D.ws ++ [(i, xs)]).length)
          rw [h.cg]; simp; omega
        · show C.left = (n : Int) - min n (D.ws ++ [(i, xs)]).length
          rw [h.cl]; simp; omega
        · show (D.ws ++ [(i, xs)]).length ≤ k + 1
          have := h.le; simp; omega
      · have hcr : C.ready i = 0 := by rw [hc1, if_neg hn]; exact hr
        by_cases hl : n = D.ws.length
        · have hcl : C.left = 0 := by rw [h.cl]; omega
          have hcE : C.writeE i xs = 61 := by unfold DM.writeE; rw [if_neg (by rw [hcr]; simp), if_neg (by rw [hx]; simp), if_pos hcl]
          have hcD : C.writeD i xs = { C with gone := true } := by unfold DM.writeD; rw [if_neg (by rw [hcr]; simp), if_neg (by rw [hx]; simp), if_pos hcl]
          rw [hcE, hcD, hdD]
          refine ⟨⟨h.dl, h.dg, hnD, h.cn, hdb, h.cb, ?_, ?_, ?_, ?_⟩, .inr rfl⟩
          · show C.ws = (D.ws ++ [(i, xs)]).take n
            rw [List.take_append_of_le_length (by omega)]; exact h.cw
          · show true = decide (n < (D.ws ++ [(i, xs)]).length)
            simp; omega
          · show C.left = (n : Int) - min n (D.ws ++ [(i, xs)]).length
            rw [h.cl]; simp; omega
          · show (D.ws ++ [(i, xs)]).length ≤ k + 1
            have := h.le; simp; omega
        · have hcl : 0 < C.left := by rw [h.cl]; omega
          have hcE : C.writeE i xs = 0 := by unfold DM.writeE; rw [if_neg (by rw [hcr]; simp), if_neg (by rw [hx]; simp), if_neg (by omega)]
          have hcD : C.writeD i xs = { b := splice C.b (i.toNat * 64) xs, left := C.left - 1, gone := C.gone, ws := C.ws ++ [(i, xs)] } := by
            unfold DM.writeD; rw [if_neg (by rw [hcr]; simp), if_neg (by rw [hx]; simp), if_neg (by omega), if_pos hcl]
          have hcw : C.ws = D.ws := by rw [h.cw, List.take_of_length_le (by omega)]
          rw [hcE, hdE, hcD, hdD]
          refine ⟨⟨h.dl, h.dg, hnD, hnC, hdb, ?_, ?_, ?_, ?_, ?_⟩, .inl rfl⟩
          · show splice C.b (i.toNat * 64) xs = lay Z16 (C.ws ++ [(i, xs)])
            rw [lay_snoc, ← h.cb]
          · show C.ws ++ [(i, xs)] = (D.ws ++ [(i, xs)]).take n
            rw [hcw, List.take_of_length_le (by simp; omega)]
          · show C.gone = decide (n < (D.ws ++ [(i, xs)]).length)
            rw [h.cg]; simp; omega
          · show C.left - 1 = (n : Int) - min n (D.ws ++ [(i, xs)]).length
            rw [h.cl]; simp; omega
          · show (D.ws ++ [(i, xs)]).length ≤ k + 1
            have := h.le; simp; omega
    · have hdE : D.writeE i xs = 1 := by unfold DM.writeE; rw [if_neg (by rw [hr]; simp), if_pos hx]
      have hdD : D.writeD i xs = D := by unfold DM.writeD; rw [if_neg (by rw [hr]; simp), if_pos hx]
      rw [hdE, hdD]
      by_cases hn : n < D.ws.length
      · have hcr : C.ready i = 61 := by rw [hc1, if_pos hn]
        have hcE : C.writeE i xs = 61 := by unfold DM.writeE; rw [if_pos (by rw [hcr]; simp), hcr]
        have hcD : C.writeD i xs = C := by unfold DM.writeD; rw [if_pos (by rw [hcr]; simp)]
        rw [hcE, hcD]; exact ⟨rinv_skip h, .inr rfl⟩
      · have hcr : C.ready i = 0 := by rw [hc1, if_neg hn]; exact hr
        have hcE : C.writeE i xs = 1 := by unfold DM.writeE; rw [if_neg (by rw [hcr]; simp), if_pos hx]
        have hcD : C.writeD i xs = C := by unfold DM.writeD; rw [if_neg (by rw [hcr]; simp), if_pos hx]
        rw [hcE, hcD]; exact ⟨rinv_skip h, .inl rfl⟩
  · have hdE : D.writeE i xs = D.ready i := by unfold DM.writeE; rw [if_pos hr]
    have hdD : D.writeD i xs = D := by unfold DM.writeD; rw [if_pos hr]
    rw [hdE, hdD]
    have hcr : ¬ C.ready i = 0 := by rw [hc1]; split <;> simp_all
    have hcE : C.writeE i xs = C.ready i := by unfold DM.writeE; rw [if_pos hcr]
    have hcD : C.writeD i xs = C := by unfold DM.writeD; rw [if_pos hcr]
    rw [hcE, hcD, hc1]
    refine ⟨rinv_skip h, ?_⟩
    split
    · exact .inr rfl
    · exact .inl rfl
end Go.Proofs.Ytpgiooheoafieaa
