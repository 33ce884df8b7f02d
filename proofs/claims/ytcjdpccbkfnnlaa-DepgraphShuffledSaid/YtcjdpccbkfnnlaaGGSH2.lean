/- PROVED: DepgraphShuffled answers true at every input, and leaves what it was given as it was; no condition. -/
import Derived.Test.YtcjdpccbkfnnlaaWMore
import Derived.Test.YtcjdpccbkfnnlaaProg
import Derived.WalkKit
import Derived.Deep.Slices
import Derived.SizedLaws
import Derived.Test.YtcjdpccbkfnnlaaWAt
import Derived.Test.YtcjdpccbkfnnlaaRows
import Derived.ProofKit
import Derived.OpenShut
import Derived.ShutString
import Derived.ChangeOld
import Derived.Below
import Derived.Test.YtcjdpccbkfnnlaaGGSH1

set_option linter.unusedVariables false
set_option linter.unusedSimpArgs false
namespace Go.Proofs.Ytcjdpccbkfnnlaa
open Go.RowKit Go.Sort Go.Proofs.YtcjdpccbkfnnlaaW.PrintWords

def lenV : Value → Nat
  | .slice _ n _ => n
  | _ => 0
/-- A list of texts that may be read. -/
def RdL (w : World) (v : Value) (l : List ByteArray) : Prop := ∃ A c, v = .slice A l.length c ∧ l.length ≤ c ∧ KS.C w A l.length l
theorem RdL.below {w w' : World} {v : Value} {l : List ByteArray} (h : RdL w v l) (hb : Below w.heap.size w w') : RdL w' v l := by
  obtain ⟨A, c, e1, e2, e3⟩ := h
  exact ⟨A, c, e1, e2, Kd.C_below e3 hb⟩
theorem RdL.nil (w : World) : RdL w (.slice none 0 0) [] := ⟨none, 0, rfl, Nat.le_refl _, KS_C_nil w⟩
theorem RdL.of {w : World} {base : Nat} {ok : Nat → Prop} {A : Option Addr} {c : Nat} {l : List ByteArray} (h : KS.R 9 w base ok (.slice A l.length c) l) : RdL w (.slice A l.length c) l := ⟨A, c, rfl, (Kd.R_reads' h).2.1, (Kd.R_reads' h).2.2⟩
/-- What the first k of a list give, one behind the other. -/
def moreT (f : ByteArray → List ByteArray) (l : List ByteArray) (k : Nat) : List ByteArray := ((l.take k).map f).flatten
theorem moreT_zero (f : ByteArray → List ByteArray) (l : List ByteArray) : moreT f l 0 = [] := rfl
theorem moreT_snoc (f : ByteArray → List ByteArray) (l : List ByteArray) (k : Nat) (h : k < l.length) : moreT f l (k + 1) = moreT f l k ++ f l[k] := by
  unfold moreT
  rw [List.take_succ_eq_append_getElem h, List.map_append, List.flatten_append]
  simp only [List.map_cons, List.map_nil, List.flatten_cons, List.flatten_nil, List.append_nil]
theorem moreT_full (f : ByteArray → List ByteArray) (l : List ByteArray) : moreT f l l.length = (l.map f).flatten := by unfold moreT; rw [List.take_length]
theorem moreT_len (f : ByteArray → List ByteArray) (l : List ByteArray) (k m : Nat) (h : ∀ x ∈ l, (f x).length ≤ m) : (moreT f l k).length ≤ l.length * m := by
  unfold moreT
  have h1 := flat_len (l.take k) f m (fun x hx => h x (List.mem_of_mem_take hx))
  have h2 : (l.take k).length * m ≤ l.length * m := Nat.mul_le_mul_right _ (List.length_take_le' _ _)
  exact Nat.le_trans h1 h2
theorem GReach.last {G : PG} {a b : ByteArray} (h : GReach G a b) : ∃ y, b ∈ gImp G y := by
  obtain ⟨k, h⟩ := h
  induction h with
  | one h0 => exact ⟨_, h0⟩
  | cons _ _ ih => exact ih
set_option maxRecDepth 100000 in
set_option maxHeartbeats 4000000 in
theorem under_any {w : World} {v : Value} {G : PG} (h : GP w v G) {s : ByteArray} (hs : s.size ≤ 9223372036854775807) : Calls Try.prog 15 #[v, .string s] w fun e w' => ∃ u, UnderS G s u ∧ ∃ A c, e = .returned (.slice A u.length c) ∧ KS.C w' A u.length u ∧ u.length ≤ c ∧ Below w.heap.size w w' := by
  have him := imports_any h hs
  have hok := h.ok
  have hal := hok.all_len
  have HG := hid h
  clear h
  go_enter Try.func15, Try.ntmps15
  go_wp2_with fail
  refine him.mono ?_
  rintro e w1 ⟨A1, c1, rfl, hR1, b1⟩
  clear him
  have hU := UInv.start hok s
  have hn1 := RdL.of hR1
  clear hR1
  generalize gImp G s = next0 at hU hn1 ⊢
  go_wp2_with fail
  go_loopw [5, 6] (fun o nx wr => ∃ out next : List ByteArray, UInv G s out next ∧ RdL wr o out ∧ RdL wr nx next ∧ Below w.heap.size w wr) (fun o _ _ => (gAll G).length - lenV o)
  case atStart => exact ⟨[], next0, hU, RdL.nil _, hn1, b1⟩
  case round =>
    clear hU hn1 b1
    obtain ⟨out, next, hU, ⟨A2, c2, rfl, hl2, hC2⟩, ⟨A3, c3, rfl, hl3, hC3⟩, hB⟩ := hrel
    have hsm := hU.small
    by_cases hne : next = []
    · subst hne
      have hD := hU.done
      have HF := hid (And.intro hD (And.intro hC2 (And.intro hl2 hB)))
      clear hC2 hC3 hB hD hU
      go_wp2
      go_ret
      exact ⟨out, HF.out.1, A2, c2, rfl, HF.out.2.1, HF.out.2.2.1, HF.out.2.2.2⟩
    · have hpos : 0 < next.length := List.length_pos_iff.2 hne
      have hposI : (0 : Int) < (next.length : Int) := by omega
      have hun := Union_any (c := c2) (c2 := c3) hC2 hC3 (by omega)
      have hgr := hU.grows hne
      have hst := hU.step
      have hsm2 := hst.small
      have HU := hid (And.intro hst (And.intro hgr (And.intro hsm2 (And.intro hl3 hB))))
      have HC3 := hid hC3
      clear hC2 hC3 hst hgr hsm2 hl2 hl3 hB hU hne
      go_wp2_with fail
      refine hun.mono ?_
      rintro e w2 ⟨A4, c4, rfl, hR4, b2⟩
      clear hun
      have hC4 := (Kd.R_reads' hR4).2
      generalize hout : setS (out ++ next) = out2 at hR4 hC4 HU ⊢
      have HC4 := hid hC4
      have HC32 := hid (Kd.C_below HC3.out b2)
      have hB2 : Below w.heap.size w w2 := below_step HU.out.2.2.2.2 b2
      have hlen3 := hsm.2
      have HB2 := hid (And.intro hB2 b2)
      clear hR4 hC4 b2 hB2 HC3
      go_upto_block 2 with (fail)
      go_cut [7] (fun u wc => ∃ A5 c5, u = .slice A5 (moreT (gImp G) next next.length).length c5 ∧ (moreT (gImp G) next next.length).length ≤ c5 ∧ KS.C wc A5 (moreT (gImp G) next next.length).length (moreT (gImp G) next next.length) ∧ Below w2.heap.size w2 wc)
      case first =>
        go_wp2_with fail
        go_loopw [7, 21] (fun u i wr2 => ∃ k : Nat, k ≤ next.length ∧ i = .int .i64 k ∧ (∃ A' c', u = .slice A' (moreT (gImp G) next k).length c') ∧ KS.R 9 wr2 w.heap.size (fun q => w2.heap.size ≤ q) u (moreT (gImp G) next k) ∧ Below w2.heap.size w2 wr2) (fun _ i _ => next.length - (intOf i).toNat)
        case atStart => exact ⟨0, Nat.zero_le _, rfl, ⟨none, 0, rfl⟩, Kd.R_nil _ _ _ _ _, Below.refl _ _⟩
        case round =>
          obtain ⟨k, hk, rfl, ⟨A', c', rfl⟩, hR, hBi⟩ := hrel
          by_cases hlt : k < next.length
          · have hltI : (k : Int) < (next.length : Int) := by omega
            cases A3 with
            | none =>
              have := KS_none HC32.out
              subst this
              simp at hlt
            | some ad =>
            have hcell := pw_cell_below hBi (KS_at HC32.out hlt)
            have hfs := moreT_snoc (gImp G) next k hlt
            have hfl := moreT_len (gImp G) next k 16 (fun x _ => hok.imp_short x)
            have hxl := hok.imp_short next[k]
            have hB3 := (HB2.out.1.trans (hBi.mono HB2.out.1.size))
            have hxs : (next[k]).size ≤ 9223372036854775807 := by
              have h1 : GReach G s next[k] := HU.out.1.rch next[k] (.inl (by rw [← hout]; exact mem_setS.2 (List.mem_append.2 (.inr (List.getElem_mem hlt)))))
              obtain ⟨y, hy⟩ := h1.last
              have := HG.out.imp_small hy
              omega
            have him2 := imports_any (HG.out.below hB3) hxs
            generalize next[k] = x at hcell hfs hxl hxs him2
            have HR := hid (And.intro hR (And.intro hfs hBi))
            clear hR hfs hBi
            go_wp2_with fail
            refine him2.mono ?_
            rintro e w4 ⟨A6, c6, rfl, hR6, b6⟩
            obtain ⟨hR, hfs, hBi⟩ := HR.out
            have hBi4 := below_step hBi b6
            have hR' := Kd.R_below hR b6
            have hC6 := (Kd.R_reads' hR6).2.2
            have s2 := HB2.out.1.size
            have s4 := hBi4.size
            clear him2 hR hR6
            go_wp2_with (at_builtin; refine Kd.R_append_rows KS (w0 := w2) w.heap.size rfl (.tmp 25) (.tmp 28) 30 9 (.string ⟨#[]⟩) 16 rfl Try.underlying30 info_str rfl (by decide) (by decide) _ _ (gImp G x) A6 (gImp G x).length c6 (fun q => w2.heap.size ≤ q) (fun _ => False) rfl rfl hR' ?HR (fun _ _ h => h) (fun _ h => h.elim) ?hf ?HB ?hb ?hl ?_)
            case HR => exact hC6
            case hf => exact fun q hq => Nat.le_trans s4 hq
            case HB => exact hBi4.mono s2
            case hb => omega
            case hl => omega
            intro v5 w5 hR5 _ hg5 _
            have hb5 : Below w2.heap.size w2 w5 := hBi4.grown hg5 s4 (fun q hq => hR'.1 q hq)
            have hsl := Kd.R_slice hR5
            rw [← hfs] at hR5 hsl
            clear hR' hC6 hBi hBi4 b6 HR
            go_wp2
            go_roundw
            case rel => exact ⟨k + 1, by omega, by go_num, hsl, hR5, hb5⟩
            case measure => simp [intOf]; omega
          · have hltI : ¬ (k : Int) < (next.length : Int) := by omega
            obtain rfl : next.length = k := by omega
            have HR := hid (And.intro hR hBi)
            clear hR hBi
            go_wp2_with fail
            go_meet
            case rel =>
              have hR := HR.out.1
              exact ⟨A', c', rfl, (Kd.R_reads' hR).2.1, (Kd.R_reads' hR).2.2, HR.out.2⟩
      case rest =>
        obtain ⟨A5, c5, rfl, hl5, hC5, b5⟩ := hcut
        have hfl := moreT_len (gImp G) next next.length 16 (fun x _ => hok.imp_short x)
        rw [← moreT_full] at HU
        have hmn := Minus_any (c := c5) (c2 := c4) hC5 (Kd.C_below HC4.out.2 b5) (by omega)
        have HB5 := hid b5
        clear hC5 b5
        go_wp2_with fail
        refine hmn.mono ?_
        rintro e w6 ⟨A7, c7, rfl, hR7, b7⟩
        obtain ⟨hst, hgr, hsm2, hl3, hB⟩ := HU.out
        have hrd := RdL.of hR7
        have hro : RdL w6 (.slice A4 out2.length c4) out2 := ⟨A4, c4, rfl, HC4.out.1, Kd.C_below (Kd.C_below HC4.out.2 HB5.out) b7⟩
        have hB6 := below_step (below_step HB2.out.1 HB5.out) b7
        have HF := hid (And.intro hst (And.intro hro (And.intro hrd hB6)))
        clear hmn hR7 hrd hro hB6 b7 hst hB
        go_wp2
        go_roundw
        case rel => exact ⟨_, _, HF.out.1, HF.out.2.1, HF.out.2.2.1, HF.out.2.2.2⟩
        case measure => simp only [lenV]; omega
end Go.Proofs.Ytcjdpccbkfnnlaa

set_option linter.unusedVariables false
set_option linter.unusedSimpArgs false
namespace Go.Proofs.Ytcjdpccbkfnnlaa
open Go.RowKit Go.Sort Go.Proofs.YtcjdpccbkfnnlaaW.PrintWords

/-- A list, and what its first k give behind it. -/
def aheadT (f : ByteArray → List ByteArray) (l : List ByteArray) (k : Nat) : List ByteArray := l ++ moreT f l k
theorem aheadT_zero (f : ByteArray → List ByteArray) (l : List ByteArray) : aheadT f l 0 = l := by unfold aheadT; rw [moreT_zero, List.append_nil]
theorem aheadT_snoc (f : ByteArray → List ByteArray) (l : List ByteArray) (k : Nat) (h : k < l.length) : aheadT f l (k + 1) = aheadT f l k ++ f l[k] := by unfold aheadT; rw [moreT_snoc _ _ _ h, List.append_assoc]
theorem aheadT_full (f : ByteArray → List ByteArray) (l : List ByteArray) : aheadT f l l.length = l ++ (l.map f).flatten := by unfold aheadT; rw [moreT_full]
theorem aheadT_len (f : ByteArray → List ByteArray) (l : List ByteArray) (k m : Nat) (h : ∀ x ∈ l, (f x).length ≤ m) : (aheadT f l k).length ≤ l.length + l.length * m := by
  unfold aheadT
  have := moreT_len f l k m h
  rw [List.length_append]
  omega
/-- A list of texts that is handed out; it may be read. -/
def OutL (w w' : World) (e : Ending) (l : List ByteArray) : Prop := ∃ v, e = .returned v ∧ RdL w' v l ∧ Below w.heap.size w w'
set_option maxRecDepth 100000 in
set_option maxHeartbeats 4000000 in
theorem over_any {w : World} {v : Value} {G : PG} (h : GP w v G) {l : List ByteArray} {A0 : Option Addr} {c0 : Nat} (hl : KS.C w A0 l.length l) (hn : (l.length + G.length + (l.length + G.length) * G.length) * 16 ≤ 140737488355328) :
    Calls Try.prog 14 #[v, .slice A0 l.length c0] w fun e w' => ∃ u, OverS G l u ∧ OutL w w' e u := by
  have hst := Set_any (c := c0) hl (by omega)
  have hG : G.length ≤ 32 := h.ok.few
  have HG := hid h
  clear h
  go_enter Try.func14, Try.ntmps14
  go_wp2_with fail
  refine hst.mono ?_
  rintro e w1 ⟨A1, c1, rfl, hR1, b1⟩
  clear hst hl
  have hO := OInv.start G l
  have hn1 := RdL.of hR1
  clear hR1
  generalize setS l = all0 at hO hn1 ⊢
  go_wp2_with fail
  go_loopw [5] (fun o wr => ∃ all : List ByteArray, OInv G l all ∧ RdL wr o all ∧ Below w.heap.size w wr) (fun o _ => l.length + G.length - lenV o)
  case atStart => exact ⟨all0, hO, hn1, b1⟩
  case round =>
    clear hO hn1 b1
    obtain ⟨W, hW⟩ : ∃ W : World, W = wr := ⟨_, rfl⟩
    subst hW
    obtain ⟨all, hO, ⟨A2, c2, rfl, hl2, hC2⟩, hB⟩ := hrel
    have hsm := hO.small
    have hle := hO.le
    have hstp := hO.step
    have hsm2 := hstp.small
    have hmul : all.length * G.length ≤ (l.length + G.length) * G.length := Nat.mul_le_mul_right _ hsm
    have hcl := clone_any (c := c2) hC2 (by omega)
    have s1 := hB.size
    have HO := hid (And.intro hO (And.intro hB (And.intro hl2 hC2)))
    clear hO hB hl2 hC2
    go_wp2_with fail
    refine hcl.mono ?_
    rintro e w2 ⟨A3, c3, rfl, hR3, b2⟩
    clear hcl
    go_upto_block 2 with (fail)
    go_cut [6] (fun u wc => ∃ A5 c5, u = .slice A5 (aheadT (gUsers G) all all.length).length c5 ∧ KS.C wc A5 (aheadT (gUsers G) all all.length).length (aheadT (gUsers G) all all.length) ∧ Below W.heap.size W wc)
    case first =>
      go_wp2_with fail
      go_loopw [6, 15] (fun u i wr2 => ∃ k : Nat, k ≤ all.length ∧ i = .int .i64 k ∧ (∃ A' c', u = .slice A' (aheadT (gUsers G) all k).length c') ∧ KS.R 9 wr2 W.heap.size (fun q => W.heap.size ≤ q) u (aheadT (gUsers G) all k) ∧ Below W.heap.size W wr2) (fun _ i _ => all.length - (intOf i).toNat)
      case atStart => exact ⟨0, Nat.zero_le _, rfl, ⟨A3, c3, by rw [aheadT_zero]⟩, by rw [aheadT_zero]; exact hR3, b2⟩
      case round =>
        clear hR3 b2
        obtain ⟨k, hk, rfl, ⟨A', c', rfl⟩, hR, hBi⟩ := hrel
        by_cases hlt : k < all.length
        · have hltI : (k : Int) < (all.length : Int) := by omega
          cases A2 with
          | none =>
            have := KS_none HO.out.2.2.2
            subst this
            simp at hlt
          | some ad =>
          have hcell := pw_cell_below hBi (KS_at HO.out.2.2.2 hlt)
          have hBw := HO.out.2.1.trans (hBi.mono s1)
          have hfs := aheadT_snoc (gUsers G) all k hlt
          have hfl2 := aheadT_len (gUsers G) all (k + 1) G.length (fun x _ => gUsers_len G x)
          have hfs2 := congrArg List.length hfs
          rw [List.length_append] at hfs2
          have hus := users_any (HG.out.below hBw) all[k]
          generalize all[k] = x at hcell hfs hfs2 hus
          have HR := hid (And.intro hR (And.intro hfs hBi))
          clear hR hfs hBi hBw
          go_wp2_with fail
          refine hus.mono ?_
          rintro e w4 ⟨A6, c6, rfl, hR6, b6⟩
          obtain ⟨hR, hfs, hBi⟩ := HR.out
          have hBi4 := below_step hBi b6
          have hR' := Kd.R_below hR b6
          have hC6 := (Kd.R_reads' hR6).2.2
          have s4 := hBi4.size
          clear hus hR hR6
          go_wp2_with (at_builtin; refine Kd.R_append_rows KS (w0 := W) W.heap.size rfl (.tmp 19) (.tmp 22) 30 9 (.string ⟨#[]⟩) 16 rfl Try.underlying30 info_str rfl (by decide) (by decide) _ _ (gUsers G x) A6 (gUsers G x).length c6 (fun q => W.heap.size ≤ q) (fun _ => False) rfl rfl hR' ?HR (fun _ _ h => h) (fun _ h => h.elim) ?hf ?HB ?hb ?hl ?_)
          case HR => exact hC6
          case hf => exact fun q hq => Nat.le_trans s4 hq
          case HB => exact hBi4
          case hb => exact s4
          case hl => omega
          intro v5 w5 hR5 hb5 _ _
          have hsl := Kd.R_slice hR5
          rw [← hfs] at hR5 hsl
          clear hR' hC6 hBi hBi4 b6 HR
          go_wp2
          go_roundw
          case rel => exact ⟨k + 1, by omega, by go_num, hsl, hR5, hb5⟩
          case measure => simp [intOf]; omega
        · have hltI : ¬ (k : Int) < (all.length : Int) := by omega
          obtain rfl : all.length = k := by omega
          have HR := hid (And.intro hR hBi)
          clear hR hBi
          go_wp2_with fail
          go_meet
          case rel => exact ⟨A', c', rfl, (Kd.R_reads' HR.out.1).2.2, HR.out.2⟩
    case rest =>
      clear hR3 b2
      obtain ⟨A5, c5, rfl, hC5, b5⟩ := hcut
      have hfl := aheadT_len (gUsers G) all all.length G.length (fun x _ => gUsers_len G x)
      have hos : setS (aheadT (gUsers G) all all.length) = overStep G all := by rw [aheadT_full]; rfl
      have hs2 := Set_any (c := c5) hC5 (by omega)
      rw [hos] at hs2
      have HB5 := hid b5
      clear hC5 b5
      go_wp2_with fail
      refine hs2.mono ?_
      rintro e w6 ⟨A7, c7, rfl, hR7, b7⟩
      clear hs2
      obtain ⟨hO, hB, hl2, hC2⟩ := HO.out
      have hb57 := below_step HB5.out b7
      have hB7 := below_step hB hb57
      have hC27 := Kd.C_below hC2 hb57
      have hrd := RdL.of hR7
      clear hR7
      by_cases he : (overStep G all).length = all.length
      · have hnm := names_any (HG.out.below hB7)
        have hD := hO.done he
        have hnl := HG.out.ok.names_len
        have HF := hid (And.intro hD hB7)
        have HC := hid hC27
        clear hO hB hl2 hC2 hb57 hB7 hC27 hrd hD b7
        generalize hov : (overStep G all).length = ol at he ⊢
        go_wp2_with fail
        refine hnm.mono ?_
        rintro e w8 ⟨A8, c8, rfl, hR8, b8⟩
        have hbt := Both_any (c := c2) (c2 := c8) (Kd.C_below HC.out b8) (Kd.R_reads' hR8).2.2 (by omega)
        clear hnm hR8
        go_wp2_with fail
        refine hbt.mono ?_
        rintro e w9 ⟨A9, c9, rfl, hR9, b9⟩
        have hB9 := below_step (below_step HF.out.2 b8) b9
        clear hbt
        go_wp2
        go_ret
        exact ⟨_, HF.out.1, _, rfl, RdL.of hR9, hB9⟩
      · have hne : ((overStep G all).length == all.length) = false := by simpa using he
        have hneI : ¬ ((overStep G all).length : Int) = (all.length : Int) := by omega
        have HF := hid (And.intro hstp (And.intro hrd hB7))
        clear hO hB hl2 hC2 hb57 hB7 hC27 hrd b7
        go_wp2
        go_roundw
        case rel => exact ⟨_, HF.out.1, HF.out.2.1, HF.out.2.2⟩
        case measure => simp only [lenV]; omega
end Go.Proofs.Ytcjdpccbkfnnlaa

set_option linter.unusedVariables false
set_option linter.unusedSimpArgs false
namespace Go.Proofs.Ytcjdpccbkfnnlaa
open Go.RowKit Go.Sort Go.Proofs.YtcjdpccbkfnnlaaW.PrintWords

open Classical in
noncomputable def missB (G : PG) : Bool := decide (Missing G)
theorem missB_iff {G : PG} : missB G = true ↔ Missing G := by unfold missB; simp
set_option maxRecDepth 100000 in
set_option maxHeartbeats 4000000 in
theorem missing_any {w : World} {v : Value} {G : PG} (h : GP w v G) : Calls Try.prog 18 #[v] w fun e w' => ∃ a b : ByteArray, e = .returned (.tuple #[.string a, .string b, .bool (missB G)]) ∧ (missB G = false → a = ⟨#[]⟩ ∧ b = ⟨#[]⟩) ∧ Below w.heap.size w w' := by
  have hnm := names_any h
  have hnl := h.ok.names_len
  have HG := hid h
  clear h
  go_enter Try.func18, Try.ntmps18
  go_wp2_with fail
  refine hnm.mono ?_
  rintro e w1 ⟨A1, c1, rfl, hR1, b1⟩
  clear hnm
  have hC1 := (Kd.R_reads' hR1).2.2
  have HN := hid hC1
  clear hR1 hC1
  generalize hnn : gNames G = nn at hnl HN ⊢
  have HNN := hid hnn
  clear hnn
  go_wp2_with fail
  go_loopw [12] (fun i wr => ∃ k : Nat, k ≤ nn.length ∧ i = .int .i64 k ∧ (∀ x ∈ nn.take k, ∀ y ∈ gImp G x, y ∈ nn) ∧ Below w.heap.size w wr ∧ Below w1.heap.size w1 wr) (fun i _ => nn.length - (intOf i).toNat)
  case atStart => exact ⟨0, Nat.zero_le _, rfl, fun x hx => (by cases hx), b1, Below.refl _ _⟩
  case round =>
    obtain ⟨W, hW⟩ : ∃ W : World, W = wr := ⟨_, rfl⟩
    subst hW
    obtain ⟨k, hk, rfl, hno, hB, hB1⟩ := hrel
    by_cases hlt : k < nn.length
    · have hltI : (k : Int) < (nn.length : Int) := by omega
      cases A1 with
      | none =>
        have := KS_none HN.out
        subst this
        simp at hlt
      | some ad =>
      have hcell := pw_cell_below hB1 (KS_at HN.out hlt)
      have hgr := HG.out.below hB
      have hsm : (nn[k]).size ≤ 32 := hgr.name_small (by rw [HNN.out]; exact List.getElem_mem hlt)
      have htk : nn.take (k + 1) = nn.take k ++ [nn[k]] := List.take_succ_eq_append_getElem hlt
      have hst : (∀ y ∈ gImp G nn[k], y ∈ nn) → ∀ x ∈ nn.take (k + 1), ∀ y ∈ gImp G x, y ∈ nn := fun h1 x hx y hy => by
        rw [htk] at hx
        rcases List.mem_append.1 hx with hx | hx
        · exact hno x hx y hy
        · have : x = nn[k] := by simpa using hx
          subst this
          exact h1 y hy
      generalize nn[k] = x at hcell hsm hst
      have hgr2 := hgr
      rcases hgr with ⟨rfl, rfl⟩ | ⟨p, rfl, hgm⟩
      · have := HNN.out
        subst this
        simp [gNames] at hlt
      obtain ⟨b, A, c, m1, m2, _, m3, m4⟩ := hgm.cell (s := x) (by omega)
      have hil := hgm.ok.imp_short x
      have hxi : ∀ y ∈ gImp G x, y.size ≤ 32 := fun y hy => hgm.imp_small hy
      have HM := hid (And.intro hst (And.intro hxi (And.intro hB hB1)))
      have HI := hid m4
      have HG2 := hid hgr2
      clear hno hst htk hxi hB hB1 m4 hgr2 hgm
      generalize hii : gImp G x = ii at m2 m3 HI HM hil ⊢
      have HII := hid hii
      clear hii
      go_wp2_with fail
      go_loopw [23] (fun i wr2 => ∃ j : Nat, j ≤ ii.length ∧ i = .int .i64 j ∧ (∀ y ∈ ii.take j, y ∈ nn) ∧ wr2 = W) (fun i _ => ii.length - (intOf i).toNat)
      case atStart => exact ⟨0, Nat.zero_le _, rfl, fun y hy => (by cases hy), rfl⟩
      case round =>
        obtain ⟨j, hj, rfl, hin, rfl⟩ := hrel
        by_cases hlt2 : j < ii.length
        · have hltI : (j : Int) < (ii.length : Int) := by omega
          cases A with
          | none =>
            have := KS_none HI.out
            subst this
            simp at hlt2
          | some ad2 =>
          have hcell2 := KS_at HI.out hlt2
          have hys := HM.out.2.1 ii[j] (List.getElem_mem hlt2)
          have hym : ii[j] ∈ gImp G x := by rw [HII.out]; exact List.getElem_mem hlt2
          have htk2 : ii.take (j + 1) = ii.take j ++ [ii[j]] := List.take_succ_eq_append_getElem hlt2
          have hha := has_any HG2.out (s := ii[j]) (by omega)
          rw [HNN.out] at hha
          generalize ii[j] = y at hcell2 hys hym htk2 hha
          have HR := hid (And.intro hin htk2)
          clear hin htk2
          cases hy : has nn y with
          | true =>
            rw [hy] at hha
            go_wp2_with fail
            refine hha.mono ?_
            rintro e w4 ⟨rfl, rfl⟩
            clear hha
            go_wp2
            go_roundw
            case rel =>
              refine ⟨j + 1, by omega, by go_num, fun z hz => ?_, by first | rfl | trivial⟩
              rw [HR.out.2] at hz
              rcases List.mem_append.1 hz with hz | hz
              · exact HR.out.1 z hz
              · have : z = y := by simpa using hz
                subst this
                exact has_iff.1 hy
            case measure => simp [intOf]; omega
          | false =>
            rw [hy] at hha
            go_wp2_with fail
            refine hha.mono ?_
            rintro e w4 ⟨rfl, rfl⟩
            clear hha
            go_wp2
            go_ret3
            have hmb : missB G = true := missB_iff.2 ⟨x, y, hym, fun h => by
              rw [HNN.out] at h
              rw [has_true h] at hy
              cases hy⟩
            rw [hmb]
            exact ⟨x, y, rfl, fun h => (by cases h), HM.out.2.2.1⟩
        · have hltI : ¬ (j : Int) < (ii.length : Int) := by omega
          obtain rfl : ii.length = j := by omega
          have HR := hid hin
          clear hin
          have hall : ∀ y ∈ ii, y ∈ nn := by
            have := HR.out
            rwa [List.take_length] at this
          have HA := hid hall
          clear hall HR
          go_wp2
          go_roundw
          case rel => exact ⟨k + 1, by omega, by go_num, HM.out.1 HA.out, HM.out.2.2.1, HM.out.2.2.2⟩
          case measure => simp [intOf]; omega
    · have hltI : ¬ (k : Int) < (nn.length : Int) := by omega
      obtain rfl : nn.length = k := by omega
      rw [List.take_length] at hno
      have HR := hid (And.intro hno hB)
      clear hno hB hB1
      go_wp2
      go_ret3
      have hmb : missB G = false := by
        cases hm : missB G with
        | false => rfl
        | true =>
          obtain ⟨n, y, h1, h2⟩ := missB_iff.1 hm
          rw [HNN.out] at h2
          exact absurd (HR.out.1 n (by rw [← HNN.out]; exact gImp_node h1) y h1) h2
      rw [hmb]
      exact ⟨_, _, rfl, fun _ => ⟨rfl, rfl⟩, HR.out.2⟩
/-- A table of numbers in a map. -/
def MapT (w : World) (b n : Nat) (L : Tab) : Prop := MapV Try.prog 9 w b n (fun x => (lk L x).map (fun j : Nat => Value.int .i64 (j : Int)))
theorem MapT.put {w : World} {b n : Nat} {L : Tab} {s : ByteArray} {d : Nat} (h : MapV Try.prog 9 w b n (fun y => if y = s then some (.int .i64 (d : Int)) else (lk L y).map (fun j : Nat => Value.int .i64 (j : Int)))) (hn : lk L s = none) : MapT w b n (L ++ [(s, d)]) := by
  refine h.congr (fun x => ?_)
  rw [lk_snoc _ _ _ _ hn]
  by_cases e : x = s
  · subst e
    simp
  · have e' : ¬ s = x := fun h => e h.symm
    simp [e, e']
theorem MapT.look {w : World} {b n : Nat} {L : Tab} (h : MapT w b n L) {s : ByteArray} (hs : s.size ≤ 9223372036854775807) :
    (Instr.lookup 65 (.map (some b)) (.string s) false).run Try.prog w = .ok (.int .i64 (lvOf L s : Nat)) w ∧
    (Instr.lookup 65 (.map (some b)) (.string s) true).run Try.prog w = .ok (.tuple #[.int .i64 (lvOf L s : Nat), .bool (lk L s).isSome]) w := by
  have k1 := MapV.look (t := 65) (e := 3) (z := .int .i64 0) h Try.underlying9 Try.underlying65 (zero_int w) hs
  have k2 := MapV.look_ok (t := 65) (e := 3) (z := .int .i64 0) h Try.underlying9 Try.underlying65 (zero_int w) hs
  unfold lvOf
  cases e : lk L s with
  | some j => rw [e] at k1 k2; exact ⟨k1, k2⟩
  | none => rw [e] at k1 k2; exact ⟨k1, k2⟩
set_option maxRecDepth 100000 in
set_option maxHeartbeats 4000000 in
theorem dist_any {w : World} {v : Value} {G : PG} (h : GP w v G) (s : ByteArray) : Calls Try.prog 47 #[v, .string s] w fun e w' => ∃ b n L, e = .returned (.map (some b)) ∧ IsDist G s (lk L) ∧ MapT w' b n L ∧ w.heap.size ≤ b ∧ (∀ x j, lk L x = some j → j ≤ 64) ∧ Below w.heap.size w w' := by
  have hG : G.length ≤ 32 := h.ok.few
  have hmm := fun W => run_makeMap (P := Try.prog) (w := W) (t := 65)
  have HG := hid h
  clear h
  go_enter Try.func47, Try.ntmps47
  go_wp2_with fail
  have hB0 := below_alloc (Below.refl w.heap.size w) (.map #[] 0)
  have hM0 := MapV.made Try.prog 9 w
  have sB0 : (w.alloc (.map #[] 0)).heap.size = w.heap.size + 1 := World.size_alloc _ _
  have hus := users_any (HG.out.below hB0) s
  generalize w.alloc (.map #[] 0) = w0 at hB0 hM0 sB0 hus ⊢
  refine hus.mono ?_
  rintro e w1 ⟨A1, c1, rfl, hR1, b1⟩
  clear hus
  have hD := DInv.start G s
  have hnl := gUsers_len G s
  have hB1 := below_step hB0 b1
  have hM1 : MapT w1 w.heap.size 0 [] := (hM0.below b1).congr (fun x => rfl)
  have hR1' : KS.R 9 w1 w.heap.size (fun q => w.heap.size < q) (.slice A1 (gUsers G s).length c1) (gUsers G s) := Kd.R_mono (Kd.R_lower hR1 (by omega)) (fun q hq => by omega)
  clear hR1 hB0 hM0 b1
  generalize gUsers G s = next0 at hD hnl hR1' ⊢
  go_wp2_with fail
  go_loopw [6, 7] (fun nx dv wr => ∃ (next : List ByteArray) (d : Nat) (L : Tab), dv = .int .i64 d ∧ DInv G s d L next ∧ d ≤ 64 ∧ next.length ≤ 1024 ∧ (∃ A c, nx = .slice A next.length c) ∧ KS.R 9 wr w.heap.size (fun q => w.heap.size < q) nx next ∧ MapT wr w.heap.size L.length L ∧ Below w.heap.size w wr) (fun _ dv _ => 66 - (intOf dv).toNat)
  case atStart => exact ⟨next0, 1, [], rfl, hD, by omega, by omega, ⟨A1, c1, rfl⟩, hR1', hM1, hB1⟩
  case round =>
    clear hD hnl hR1' hM1 hB1
    obtain ⟨W, hW⟩ : ∃ W : World, W = wr := ⟨_, rfl⟩
    subst hW
    obtain ⟨next, d, L, rfl, hD, hd, hnl, ⟨A2, c2, rfl⟩, hR, hM, hB⟩ := hrel
    by_cases hne : next = []
    · subst hne
      have HF := hid (And.intro hD.done (And.intro hM (And.intro (fun x j hj => by have := (hD.way x j hj).1; omega : ∀ x j, lk L x = some j → j ≤ 64) hB)))
      clear hD hR hM hB
      go_wp2
      go_ret
      exact ⟨w.heap.size, _, L, rfl, HF.out.1, HF.out.2.1, Nat.le_refl _, HF.out.2.2.1, HF.out.2.2.2⟩
    · have hpos : 0 < next.length := List.length_pos_iff.2 hne
      have hposI : (0 : Int) < (next.length : Int) := by omega
      have hLs := hD.small
      have hcnt : d ≤ L.length + 1 := hD.cnt.resolve_left hne
      have sW := hB.size
      have hlt0 := hM.lt
      have HR := hid (And.intro hR (And.intro hM (And.intro hB hD)))
      clear hR hM hB hD hne
      go_upto_block 2 with (fail)
      go_cut [8] (fun u wc => ∃ (L' : Tab) (more : List ByteArray), BR G d L next L' more ∧ (∃ A c, u = .slice A more.length c) ∧ KS.R 9 wc w.heap.size (fun q => W.heap.size ≤ q) u more ∧ MapT wc w.heap.size L'.length L' ∧ Chg (fun q => q = w.heap.size) W wc)
      case first =>
        go_wp2_with fail
        go_loopw [8, 24] (fun u i wr2 => ∃ k : Nat, k ≤ next.length ∧ i = .int .i64 k ∧ (∃ A c, u = .slice A (bfsRound G d L (next.take k)).2.length c) ∧ KS.R 9 wr2 w.heap.size (fun q => W.heap.size ≤ q) u (bfsRound G d L (next.take k)).2 ∧ MapT wr2 w.heap.size (bfsRound G d L (next.take k)).1.length (bfsRound G d L (next.take k)).1 ∧ Chg (fun q => q = w.heap.size) W wr2) (fun _ i _ => next.length - (intOf i).toNat)
        case atStart => exact ⟨0, Nat.zero_le _, rfl, ⟨none, 0, rfl⟩, Kd.R_nil _ _ _ _ _, HR.out.2.1, Chg.refl _ _⟩
        case round =>
          obtain ⟨k, hk, rfl, ⟨A', c', rfl⟩, hRm, hMm, hC⟩ := hrel
          by_cases hlt : k < next.length
          · have hltI : (k : Int) < (next.length : Int) := by omega
            have hRn := Kd.R_step HR.out.1 (w1 := wr) (fun q hq hql => hC.block q hql (fun e => by omega))
            cases A2 with
            | none =>
              have := KS_none (Kd.R_reads' hRn).2.2
              subst this
              simp at hlt
            | some ad =>
            have hcell := KS_at (Kd.R_reads' hRn).2.2 hlt
            have hBR := bfsRound_BR G d L (next.take k)
            have htk : next.take (k + 1) = next.take k ++ [next[k]] := List.take_succ_eq_append_getElem hlt
            have hsn := bfsRound_snoc G d L (next.take k) next[k]
            rw [← htk] at hsn
            have hnx := HR.out.2.2.2.nx next[k] (List.getElem_mem hlt)
            have hBw : Below w.heap.size w wr := HR.out.2.2.1.trans (hC.below_ sW (fun q hq => by omega))
            have hxs : (next[k]).size ≤ 32 := (HG.out.below hBw).name_small hnx.node
            have hLs2 := hBR.few HR.out.2.2.2.nd (fun n j h => (HR.out.2.2.2.way n j h).2.node) (fun n hn => (HR.out.2.2.2.nx n (List.mem_of_mem_take hn)).node)
            have hsm := hBR.small
            have hmul : ((bfsRound G d L (next.take k)).1.length - L.length) * G.length ≤ 32 * 32 := Nat.mul_le_mul (by omega) hG
            clear hnx hBR htk hRn
            generalize next[k] = x at hcell hsn hxs
            generalize bfsRound G d L (next.take k) = st at hRm hMm hsn hLs2 hsm hmul ⊢
            generalize hst2 : bfsRound G d L (next.take (k + 1)) = st2 at hsn ⊢
            have H2 := hid hst2
            clear hst2
            obtain ⟨hlo1, hlo2⟩ := hMm.look (s := x) (by omega)
            have hus := users_any (HG.out.below hBw) x
            unfold bfsStep at hsn
            cases hlx : lk st.1 x with
            | some j =>
              rw [hlx] at hsn hlo2
              dsimp only at hsn
              subst hsn
              have HS := hid (And.intro hRm (And.intro hMm hC))
              clear hRm hMm hC hus hBw hlo1
              go_wp2
              go_roundw
              case rel =>
                refine ⟨k + 1, by omega, by go_num, ?_⟩
                rw [H2.out]
                exact ⟨⟨A', c', rfl⟩, HS.out.1, HS.out.2.1, HS.out.2.2⟩
              case measure => simp [intOf]; omega
            | none =>
              rw [hlx] at hsn hlo2
              dsimp only at hsn
              have HS := hid (And.intro hRm (And.intro hC (And.intro hBw hsn)))
              clear hRm hC hBw hlo1 hus hsn
              go_wp2_with (at_mapUpdate; refine wpList_put _ rfl _ _ _ 65 3 rfl Try.underlying9 Try.underlying65 rfl hMm (by unfold maxLen; omega) x (.int .i64 d) (by unfold maxLen; omega) rfl rfl ?_)
              intro w4 hM4 hg4
              obtain ⟨hRm, hC, hBw, hsn⟩ := HS.out
              have hM5 := MapT.put hM4 hlx
              have hC4 : Chg (fun q => q = w.heap.size) W w4 := hC.grown hg4 (fun q e => .inl (by injection e with e; exact e.symm))
              have hRm4 := Kd.R_step hRm (w1 := w4) (fun q hq hql => hg4.block q hql (fun e => by injection e with e; omega))
              have hBw4 : Below w.heap.size w w4 := HR.out.2.2.1.trans (hC4.below_ sW (fun q hq => by omega))
              have hus := users_any (HG.out.below hBw4) x
              have hul := gUsers_len G x
              have s4 := hC4.size
              have HS2 := hid (And.intro hRm4 (And.intro hC4 (And.intro hM5 hsn)))
              clear hRm hC hBw hsn hM4 hg4 hM5 hC4 hRm4 hBw4 HS hMm hlx hlo2
              go_wp2_with fail
              refine hus.mono ?_
              rintro e w5 ⟨A6, c6, rfl, hR6, b5⟩
              obtain ⟨hRm4, hC4, hM5, hsn⟩ := HS2.out
              have hC5 := hC4.same b5
              have hR' := Kd.R_below hRm4 b5
              have hC6 := (Kd.R_reads' hR6).2.2
              have hM6 := MapV.below hM5 b5
              have s5 := hC5.size
              have hBw5 : Below w.heap.size w w5 := HR.out.2.2.1.trans (hC5.below_ sW (fun q hq => by omega))
              clear hus hRm4 hR6 hC4 hM5 HS2
              go_wp2_with (at_builtin; refine Kd.R_append_rows KS (w0 := w) w.heap.size rfl (.tmp 39) (.tmp 42) 30 9 (.string ⟨#[]⟩) 16 rfl Try.underlying30 info_str rfl (by decide) (by decide) _ _ (gUsers G x) A6 (gUsers G x).length c6 (fun q => W.heap.size ≤ q) (fun _ => False) rfl rfl hR' ?HR (fun _ _ h => h) (fun _ h => h.elim) ?hf ?HB ?hb ?hl ?_)
              case HR => exact hC6
              case hf => exact fun q hq => Nat.le_trans s5 hq
              case HB => exact hBw5
              case hb => omega
              case hl => omega
              intro v7 w7 hR7 _ hg7 _
              have hC7 := hC5.grown hg7 (fun q hq => .inr (hR'.1 q hq))
              have hM7 : MapT w7 w.heap.size (st.1 ++ [(x, d)]).length (st.1 ++ [(x, d)]) := by
                have h1 := MapV.block (w1 := w7) hM6 (hg7.block _ (MapV.lt hM6) (fun e => by have := hR'.1 _ e.symm; omega))
                have e1 : (st.1 ++ [(x, d)]).length = st.1.length + 1 := by simp
                rw [e1]
                exact h1
              have hsl := Kd.R_slice hR7
              have e1 : st2.1 = st.1 ++ [(x, d)] := by rw [hsn]
              have e2 : st2.2 = st.2 ++ gUsers G x := by rw [hsn]
              rw [← e2] at hR7 hsl
              rw [← e1] at hM7
              have HF := hid (And.intro hR7 (And.intro hM7 hC7))
              clear hR' hC6 hM6 hC5 b5 hg7 hR7 hM7 hC7 hsn e1 e2 hBw5
              obtain ⟨A8, c8, rfl⟩ := hsl
              go_wp2
              go_roundw
              case rel =>
                refine ⟨k + 1, by omega, by go_num, ?_⟩
                rw [H2.out]
                exact ⟨⟨A8, c8, rfl⟩, HF.out.1, HF.out.2.1, HF.out.2.2⟩
              case measure => simp [intOf]; omega
          · have hltI : ¬ (k : Int) < (next.length : Int) := by omega
            obtain rfl : next.length = k := by omega
            rw [List.take_length] at hRm hMm ⊢
            have HS := hid (And.intro hRm (And.intro hMm hC))
            clear hRm hMm hC
            go_wp2_with fail
            go_meet
            case rel => exact ⟨_, _, bfsRound_BR G d L next, ⟨A', c', rfl⟩, HS.out.1, HS.out.2.1, HS.out.2.2⟩
      case rest =>
        obtain ⟨L', more, hBR, ⟨A5, c5, rfl⟩, hR5, hM5, hC5⟩ := hcut
        obtain ⟨hR, hM, hB, hD⟩ := HR.out
        have hD2 := hD.step hBR
        have hLs2 := hD2.small
        have hsm := hBR.small
        have hmul : (L'.length - L.length) * G.length ≤ 32 * 32 := Nat.mul_le_mul (by omega) hG
        have hBw : Below w.heap.size w wc := hB.trans (hC5.below_ sW (fun q hq => by omega))
        have HF := hid (And.intro hD2 (And.intro (Kd.R_mono hR5 (fun q hq => (by omega : w.heap.size < q))) (And.intro hM5 hBw)))
        have hd1 := hD.d1
        clear hR hM hB hD hD2 hBR hR5 hM5 hC5 hBw HR
        go_wp2
        go_roundw
        case rel => exact ⟨more, d + 1, L', by go_num, HF.out.1, by omega, by omega, ⟨A5, c5, rfl⟩, HF.out.2.1, HF.out.2.2.1, HF.out.2.2.2⟩
        case measure => simp [intOf]; omega
end Go.Proofs.Ytcjdpccbkfnnlaa

set_option linter.unusedVariables false
set_option linter.unusedSimpArgs false
namespace Go.Proofs.Ytcjdpccbkfnnlaa
open Go.RowKit Go.Sort Go.Proofs.YtcjdpccbkfnnlaaW.PrintWords

theorem R_one (w : World) (s : ByteArray) : KS.R 9 (w.alloc (.cells #[.string s] 9)) w.heap.size (fun q => w.heap.size ≤ q) (.slice (some ⟨w.heap.size, 0, none⟩) 1 1) [s] :=
  Kd.R_of_own (World.ownsRow_lit (base := w.heap.size) (e := 9) (size := 1) w #[.string s] 1 (Nat.le_refl _) (by decide) (by simp)) (fun k hk => by
    have : w.heap.size = k := by simpa [Value.ownBlock] using hk
    omega)
theorem find_at {α : Type} {l : List α} {p : α → Bool} {j : Nat} (hj : j < l.length) (h1 : ∀ x ∈ l.take j, p x = false) (h2 : p l[j] = true) : l.find? p = some l[j] := by
  rw [List.find?_eq_some_iff_append]
  refine ⟨h2, l.take j, l.drop (j + 1), ?_, fun a ha => by rw [h1 a ha]; rfl⟩
  rw [← List.drop_eq_getElem_cons hj, List.take_append_drop]
theorem find_none {α : Type} {l : List α} {p : α → Bool} (h1 : ∀ x ∈ l, p x = false) : l.find? p = none := by
  rw [List.find?_eq_none]
  intro x hx
  simp [h1 x hx]
theorem backL_some {G : PG} {f : ByteArray → Option Nat} {first a i : ByteArray} {k : Nat} (h : backStep G f first (k + 1) a = some i) : backL G f first (k + 1) a = i :: backL G f first k i := by
  rw [backL, h]
theorem backL_none {G : PG} {f : ByteArray → Option Nat} {first a : ByteArray} {k : Nat} (h : backStep G f first (k + 1) a = none) : backL G f first (k + 1) a = backL G f first k a := by
  rw [backL, h]
set_option maxRecDepth 100000 in
set_option maxHeartbeats 8000000 in
theorem back_any {w : World} {p : Nat} {G : PG} (h : GMem w p G) {s : ByteArray} (hs : s.size ≤ 32) : Calls Try.prog 35 #[.pointer (some ⟨p, 0, none⟩), .string s] w fun e w' => ∃ L, IsDist G s (lk L) ∧ OutL w w' e (s :: backL G (lk L) s (lvOf L s - 1) s) := by
  have hd := dist_any (.inr ⟨p, rfl, h⟩) s
  have HG := hid h
  clear h
  go_enter Try.func35, Try.ntmps35
  go_wp2_with fail
  refine hd.mono ?_
  rintro e w1 ⟨b, n, L, rfl, hD, hM, hb, h64, b1⟩
  clear hd
  have hM2 := MapV.below hM (below_alloc (Below.refl w1.heap.size w1) (.cells #[.string s] 9))
  have hlk := (MapT.look hM2 (s := s) (by omega)).1
  have hlv : lvOf L s ≤ 64 := by
    unfold lvOf
    cases e : lk L s with
    | none => simp
    | some j => exact h64 s j e
  have hR := R_one w1 s
  have hB2 := below_alloc (Below.refl w1.heap.size w1) (.cells #[.string s] 9)
  have HM := hid (And.intro hM (And.intro h64 (And.intro hD (And.intro b1 hb))))
  clear hM hM2 h64 hD b1 hb
  go_upto_block 0 with (fail)
  clear hlk
  generalize w1.alloc (.cells #[.string s] 9) = w2 at hR hB2 ⊢
  go_wp2_with fail
  go_loopw [6, 7, 8] (fun rv av lv wr => ∃ (r : List ByteArray) (a : ByteArray) (k : Int), av = .string a ∧ lv = .int .i64 k ∧ (-1 ≤ k ∧ k ≤ 63) ∧ a.size ≤ 32 ∧ (∃ A c, rv = .slice A r.length c) ∧ KS.R 9 wr w1.heap.size (fun q => w1.heap.size ≤ q) rv r ∧ r.length + k.toNat ≤ 65 ∧ r ++ backL G (lk L) s k.toNat a = s :: backL G (lk L) s (lvOf L s - 1) s ∧ Below w1.heap.size w1 wr) (fun _ _ lv _ => (intOf lv).toNat)
  case atStart => exact ⟨[s], s, (lvOf L s : Int) - 1, rfl, rfl, by omega, hs, ⟨_, _, rfl⟩, hR, by simp; omega, by rw [show ((lvOf L s : Int) - 1).toNat = lvOf L s - 1 from by omega]; rfl, hB2⟩
  case round =>
    clear hR hB2
    obtain ⟨W, hW⟩ : ∃ W : World, W = wr := ⟨_, rfl⟩
    subst hW
    obtain ⟨r, a, k, rfl, rfl, hk, has_, ⟨A', c', rfl⟩, hR, hrl, heq, hB⟩ := hrel
    have hb0 := HM.out.2.2.2.1
    have hBw := below_step hb0 hB
    by_cases hlt : 0 < k
    · obtain ⟨K, hK⟩ : ∃ K : Nat, k.toNat = K + 1 := ⟨k.toNat - 1, by omega⟩
      have hgm := HG.out.below hBw
      obtain ⟨bg, A, c, m1, m2, _, m3, m4⟩ := hgm.cell (s := a) (by omega)
      have hil := hgm.ok.imp_short a
      have hMW := MapV.below HM.out.1 hB
      have hxi : ∀ y ∈ gImp G a, y.size ≤ 32 := fun y hy => hgm.imp_small hy
      rw [hK] at heq hrl
      have HI := hid m4
      have HX := hid (And.intro hxi (And.intro hMW (And.intro hR (And.intro heq (And.intro hB (And.intro hrl hK))))))
      have hst : backStep G (lk L) s (K + 1) a = (gImp G a).find? (fun i => decide (lk L i = some (K + 1)) && decide (i ≠ s)) := rfl
      have HST := hid hst
      clear m4 hgm hxi hMW hR heq hB hBw hb0 hst hrl hK
      generalize hii : gImp G a = ii at m2 m3 HI HX HST hil
      clear hii
      go_wp2_with fail
      go_loopw [6, 7, 34] (fun rv av i wr2 => ∃ j : Nat, j ≤ ii.length ∧ rv = .slice A' r.length c' ∧ av = .string a ∧ i = .int .i64 j ∧ (∀ x ∈ ii.take j, (decide (lk L x = some (K + 1)) && decide (x ≠ s)) = false) ∧ wr2 = W) (fun _ _ i _ => ii.length - (intOf i).toNat)
      case atStart => exact ⟨0, Nat.zero_le _, rfl, rfl, rfl, fun y hy => (by cases hy), rfl⟩
      case round =>
        obtain ⟨j, hj, rfl, rfl, rfl, hno, rfl⟩ := hrel
        by_cases hlt2 : j < ii.length
        · have hltI : (j : Int) < (ii.length : Int) := by omega
          cases A with
          | none =>
            have := KS_none HI.out
            subst this
            simp at hlt2
          | some ad2 =>
          have hcell2 := KS_at HI.out hlt2
          have hys := HX.out.1 ii[j] (List.getElem_mem hlt2)
          have htk2 : ii.take (j + 1) = ii.take j ++ [ii[j]] := List.take_succ_eq_append_getElem hlt2
          have hfd := fun (h : (decide (lk L ii[j] = some (K + 1)) && decide (ii[j] ≠ s)) = true) => find_at (p := fun i => decide (lk L i = some (K + 1)) && decide (i ≠ s)) hlt2 hno h
          obtain ⟨hl1, hl2⟩ := MapT.look HX.out.2.1 (s := ii[j]) (by omega)
          generalize ii[j] = y at hcell2 hys htk2 hfd hl1 hl2
          have HN := hid (And.intro hno (And.intro htk2 hfd))
          clear hno htk2 hfd hl1
          cases hp : (decide (lk L y = some (K + 1)) && decide (y ≠ s)) with
          | true =>
            have hp2 := hp
            rw [Bool.and_eq_true, decide_eq_true_eq, decide_eq_true_eq] at hp2
            have hlv1 : ((lvOf L y : Nat) : Int) = k := by unfold lvOf; rw [hp2.1]; have := HX.out.2.2.2.2.2.2; simp; omega
            rw [hlv1, hp2.1] at hl2
            have hns : ¬ y.toList = s.toList := fun h => hp2.2 (by rw [toL, toL] at h; exact bl_inj h)
            have hnsb : (y.toList == s.toList) = false := by simpa using hns
            have HP := hid hp
            clear hp hp2 hlv1
            have hR := HX.out.2.2.1
            have hrl := HX.out.2.2.2.2.2.1
            have sW := HX.out.2.2.2.2.1.size
            go_wp2_with (at_builtin; refine Kd.R_append KS (w0 := w1) (W := wr) w1.heap.size rfl (.tmp 55) (.tmp 57) 30 9 (.string ⟨#[]⟩) 16 rfl Try.underlying30 info_str rfl (by decide) (by decide) _ _ y [.string y] (fun q => w1.heap.size ≤ q) (fun _ => False) rfl rfl rfl (fun _ h => h.elim) (fun q hq => Nat.le_trans sW hq) hR ?HB ?hb ?hl ?_)
            case HB => exact HX.out.2.2.2.2.1
            case hb => exact sW
            case hl => omega
            intro v2 w3 hR2 _ hg2 _
            have hB3 : Below w1.heap.size w1 w3 := HX.out.2.2.2.2.1.grown hg2 sW (fun q hq => hR.1 q hq)
            obtain ⟨A9, c9, rfl⟩ := Kd.R_slice hR2
            have hbk := HN.out.2.2 HP.out
            rw [← HST.out] at hbk
            have heq2 := HX.out.2.2.2.1
            rw [backL_some hbk] at heq2
            have heq3 : (r ++ [y]) ++ backL G (lk L) s K y = s :: backL G (lk L) s (lvOf L s - 1) s := by rw [List.append_assoc]; exact heq2
            have HF := hid (And.intro hR2 (And.intro heq3 (And.intro hB3 HX.out.2.2.2.2.2.2)))
            clear hR hg2 hR2 hB3 heq2 heq3 hbk hl2
            go_wp2
            go_roundw
            case rel =>
              obtain ⟨hR2, heq3, hB3, hkk⟩ := HF.out
              exact ⟨r ++ [y], y, k - 1, rfl, by go_num, by omega, hys, ⟨A9, c9, rfl⟩, hR2, by simp; omega, by rw [show (k - 1).toNat = K from by omega]; exact heq3, hB3⟩
            case measure =>
              have := HF.out.2.2.2
              simp [intOf]
              omega
          | false =>
            have hnx : ∀ x ∈ ii.take (j + 1), (decide (lk L x = some (K + 1)) && decide (x ≠ s)) = false := fun x hx => by
              rw [HN.out.2.1] at hx
              rcases List.mem_append.1 hx with hx | hx
              · exact HN.out.1 x hx
              · have : x = y := by simpa using hx
                subst this
                exact hp
            have HNX := hid hnx
            clear hnx
            cases hly : lk L y with
            | none =>
              rw [hly] at hl2
              clear hp hly
              go_wp2
              go_roundw
              case rel => exact ⟨j + 1, by omega, rfl, rfl, by go_num, HNX.out, by first | rfl | trivial⟩
              case measure => simp [intOf]; omega
            | some q =>
              have hlq : ((lvOf L y : Nat) : Int) = (q : Int) := by unfold lvOf; rw [hly]; rfl
              rw [hlq, hly] at hl2
              by_cases hqk : q = K + 1
              · have hys2 : y = s := by
                  apply Classical.byContradiction
                  intro hne
                  rw [hly, hqk] at hp
                  simp [hne] at hp
                clear hp hly hlq
                subst hys2
                go_wp2
                go_roundw
                case rel => exact ⟨j + 1, by omega, rfl, rfl, by go_num, HNX.out, by first | rfl | trivial⟩
                case measure => simp [intOf]; omega
              · have hqI : ¬ (q : Int) = k := by have := HX.out.2.2.2.2.2.2; omega
                clear hp hly hlq
                by_cases hys2 : y = s
                · subst hys2
                  go_wp2
                  go_roundw
                  case rel => exact ⟨j + 1, by omega, rfl, rfl, by go_num, HNX.out, by first | rfl | trivial⟩
                  case measure => simp [intOf]; omega
                · have hns : ¬ y.toList = s.toList := fun h => hys2 (by rw [toL, toL] at h; exact bl_inj h)
                  have hnsb : (y.toList == s.toList) = false := by simpa using hns
                  go_wp2
                  go_roundw
                  case rel => exact ⟨j + 1, by omega, rfl, rfl, by go_num, HNX.out, by first | rfl | trivial⟩
                  case measure => simp [intOf]; omega
        · have hltI : ¬ (j : Int) < (ii.length : Int) := by omega
          obtain rfl : ii.length = j := by omega
          rw [List.take_length] at hno
          have hbk : backStep G (lk L) s (K + 1) a = none := by rw [HST.out]; exact find_none hno
          have heq2 := HX.out.2.2.2.1
          rw [backL_none hbk] at heq2
          have HF := hid (And.intro heq2 (And.intro HX.out.2.2.2.2.1 (And.intro HX.out.2.2.2.2.2.2 (And.intro HX.out.2.2.1 HX.out.2.2.2.2.2.1))))
          clear hno hbk heq2
          go_wp2
          go_roundw
          case rel =>
            obtain ⟨heq2, hB, hkk, hR, hrl⟩ := HF.out
            exact ⟨r, a, k - 1, rfl, by go_num, by omega, has_, ⟨A', c', rfl⟩, hR, by omega, by rw [show (k - 1).toNat = K from by omega]; exact heq2, hB⟩
          case measure =>
            have := HF.out.2.2.1
            simp [intOf]
            omega
    · have h0 : k.toNat = 0 := by omega
      rw [h0] at heq
      rw [show backL G (lk L) s 0 a = [] from rfl, List.append_nil] at heq
      subst heq
      have HF := hid (And.intro HM.out.2.2.1 (And.intro (RdL.of hR) hBw))
      clear hR hB hBw hb0
      go_wp2
      go_ret
      exact ⟨L, HF.out.1, _, rfl, HF.out.2.1, HF.out.2.2⟩
end Go.Proofs.Ytcjdpccbkfnnlaa

set_option linter.unusedVariables false
set_option linter.unusedSimpArgs false
namespace Go.Proofs.Ytcjdpccbkfnnlaa
open Go.RowKit Go.Sort Go.Proofs.YtcjdpccbkfnnlaaW.PrintWords

theorem least_way {G : PG} {a b : ByteArray} : ∀ {k : Nat}, GWay G k a b → ∃ j, GWay G j a b ∧ ∀ i, GWay G i a b → j ≤ i := by
  intro k
  induction k using Nat.strongRecOn with
  | ind k ih =>
    intro h
    by_cases hx : ∃ i, i < k ∧ GWay G i a b
    · obtain ⟨i, hi, hw⟩ := hx
      exact ih i hi hw
    · exact ⟨k, h, fun i hi => by
        rcases Nat.lt_or_ge i k with hl | hl
        · exact absurd ⟨i, hl, hi⟩ hx
        · exact hl⟩
theorem IsDist.ex {G : PG} {z n : ByteArray} {f : ByteArray → Option Nat} (h : IsDist G z f) (hr : GReach G n z) : ∃ d, f n = some d := by
  obtain ⟨k, hk⟩ := hr
  obtain ⟨j, h1, h2⟩ := least_way hk
  exact ⟨j, (h n j).2 ⟨h1, h2⟩⟩
set_option maxRecDepth 100000 in
set_option maxHeartbeats 4000000 in
theorem ring_any {w : World} {v : Value} {G : PG} (h : GP w v G) : Calls Try.prog 19 #[v] w fun e w' => ∃ r, RingS G r ∧ OutL w w' e r := by
  have hnm := names_any h
  have hnl := h.ok.names_len
  have hal := h.ok.all_len
  have HG := hid h
  clear h
  go_enter Try.func19, Try.ntmps19
  go_wp2_with fail
  refine hnm.mono ?_
  rintro e w1 ⟨A1, c1, rfl, hR1, b1⟩
  clear hnm
  have HN := hid (Kd.R_reads' hR1).2.2
  clear hR1
  generalize hnn : gNames G = nn at hnl HN ⊢
  have HNN := hid hnn
  clear hnn
  go_wp2_with fail
  go_loopw [8] (fun i wr => ∃ k : Nat, k ≤ nn.length ∧ i = .int .i64 k ∧ (∀ (j : Nat) (x : ByteArray), j < k → nn[j]? = some x → ¬ GReach G x x) ∧ Below w.heap.size w wr ∧ Below w1.heap.size w1 wr) (fun i _ => nn.length - (intOf i).toNat)
  case atStart => exact ⟨0, Nat.zero_le _, rfl, fun j x hj => by omega, b1, Below.refl _ _⟩
  case round =>
    obtain ⟨k, hk, rfl, hno, hB, hB1⟩ := hrel
    by_cases hlt : k < nn.length
    · have hltI : (k : Int) < (nn.length : Int) := by omega
      cases A1 with
      | none =>
        have := KS_none HN.out
        subst this
        simp at hlt
      | some ad =>
      have hcell := pw_cell_below hB1 (KS_at HN.out hlt)
      have hgr := HG.out.below hB
      have hsm : (nn[k]).size ≤ 32 := hgr.name_small (by rw [HNN.out]; exact List.getElem_mem hlt)
      have hat : nn[k]? = some nn[k] := List.getElem?_eq_getElem hlt
      generalize nn[k] = x at hcell hsm hat
      have hun := under_any hgr (s := x) (by omega)
      have HX := hid (And.intro hno (And.intro hB (And.intro hB1 hat)))
      clear hno hB hB1 hat
      go_wp2_with fail
      refine hun.mono ?_
      rintro e w2 ⟨u, hu, A2, c2, rfl, hC2, hl2, b2⟩
      have hct := contains_any (c := c2) hC2 x
      clear hun
      obtain ⟨hno, hB, hB1, hat⟩ := HX.out
      cases hp : has u x with
      | true =>
        rw [hp] at hct
        have hre : GReach G x x := (hu.2 x).1 (has_iff.1 hp)
        have hB2 := below_step hB b2
        rcases HG.out.below hB2 with ⟨hv, hg0⟩ | ⟨p, hv, hgm⟩
        · have := HNN.out
          rw [hg0] at this
          simp [gNames] at this
          subst this
          simp at hlt
        · have hbk := back_any hgm hsm
          subst hv
          have HF := hid (And.intro hno (And.intro hat (And.intro hre hB2)))
          clear hno hat hre hB2 hB hB1 b2 hC2 hu hgm HX
          go_wp2_with fail
          refine hct.mono ?_
          rintro e w3 ⟨rfl, rfl⟩
          clear hct
          go_wp2_with fail
          refine hbk.mono ?_
          rintro e w3 ⟨L, hL, vr, rfl, hrd, b3⟩
          obtain ⟨hno, hat, hre, hB2⟩ := HF.out
          obtain ⟨d, hd⟩ := hL.ex hre
          have hlv : lvOf L x = d := by unfold lvOf; rw [hd]; rfl
          rw [hlv] at hrd
          have HR := hid (And.intro hrd (below_step hB2 b3))
          clear hbk hrd b3
          go_wp2
          go_ret
          exact ⟨_, .inr ⟨x, lk L, d, k, by rw [HNN.out]; exact hat, fun j y hj hy => hno j y hj (by rw [← HNN.out]; exact hy), hre, hL, hd, rfl⟩, vr, rfl, HR.out.1, HR.out.2⟩
      | false =>
        rw [hp] at hct
        have hnr : ¬ GReach G x x := fun h => by rw [has_true ((hu.2 x).2 h)] at hp; cases hp
        have hnx : ∀ (j : Nat) (y : ByteArray), j < k + 1 → nn[j]? = some y → ¬ GReach G y y := fun j y hj hy => by
          rcases Nat.lt_or_ge j k with h | h
          · exact hno j y h hy
          · have : j = k := by omega
            subst this
            rw [hat] at hy
            cases hy
            exact hnr
        have HF := hid (And.intro hnx (And.intro (below_step hB b2) (below_step hB1 b2)))
        clear hno hat hnr hnx hB hB1 b2 hC2 hu HX
        go_wp2_with fail
        refine hct.mono ?_
        rintro e w3 ⟨rfl, rfl⟩
        clear hct
        go_wp2
        go_roundw
        case rel => exact ⟨k + 1, by omega, by go_num, HF.out.1, HF.out.2.1, HF.out.2.2⟩
        case measure => simp [intOf]; omega
    · have hltI : ¬ (k : Int) < (nn.length : Int) := by omega
      obtain rfl : nn.length = k := by omega
      have HF := hid (And.intro hno hB)
      clear hno hB hB1
      go_wp2
      go_ret
      refine ⟨[], .inl ⟨fun n hn => ?_, rfl⟩, _, rfl, RdL.nil _, HF.out.2⟩
      rw [HNN.out] at hn
      obtain ⟨j, hj, rfl⟩ := List.mem_iff_getElem.1 hn
      exact HF.out.1 j _ hj (List.getElem?_eq_getElem hj)
/-- What Order answers. -/
def OrderS (G : PG) (o : List ByteArray) (E : Int) : Prop := (Missing G ∧ o = [] ∧ E = 31) ∨ (¬ Missing G ∧ ((E = 0 ∧ OrdS G (some o)) ∨ (E = 32 ∧ o = [] ∧ OrdS G none)))
set_option maxRecDepth 100000 in
set_option maxHeartbeats 8000000 in
theorem order_any {w : World} {p : Nat} {G : PG} (h : GMem w p G) : Calls Try.prog 17 #[.pointer (some ⟨p, 0, none⟩)] w fun e w' => ∃ (o : List ByteArray) (E : Int) (u : Value), OrderS G o E ∧ e = .returned (.tuple #[u, .int .i64 E]) ∧ RdL w' u o ∧ Below w.heap.size w w' := by
  have hms := missing_any (.inr ⟨p, rfl, h⟩)
  have HG := hid h
  clear h
  go_enter Try.func17, Try.ntmps17
  go_wp2
  go_step3
  go_wp2_with fail
  refine hms.mono ?_
  rintro e w1 ⟨a, b, rfl, _, b1⟩
  clear hms
  cases hm : missB G with
  | true =>
    have hM := missB_iff.1 hm
    go_wp2
    rw [Exit.noGoto_ret]
    go_ret2
    exact ⟨[], 31, _, .inl ⟨hM, rfl, rfl⟩, rfl, RdL.nil _, b1⟩
  | false =>
    have hM : ¬ Missing G := fun h => by rw [missB_iff.2 h] at hm; cases hm
    have hg1 := HG.out.below b1
    have hnm := names_any (.inr ⟨p, rfl, hg1⟩)
    have hnl := hg1.ok.names_len
    have HM := hid (And.intro hM b1)
    clear hM hg1 b1
    go_wp2_with fail
    refine hnm.mono ?_
    rintro e w2 ⟨A1, c1, rfl, hR1, b2⟩
    clear hnm
    have HN := hid (Kd.R_reads' hR1).2.2
    have hB2 := below_step HM.out.2 b2
    have HB := hid hB2
    have hs2 := hB2.size
    clear hR1 b2 hB2
    generalize hnn : gNames G = nn at hnl HN ⊢
    have HNN := hid hnn
    clear hnn
    go_wp2_with fail
    go_step3
    go_wp2_with fail
    go_loopw [7] (fun u wr => ∃ out : List ByteArray, OrdTo G out ∧ (∃ A c, u = .slice A out.length c) ∧ KS.R 9 wr w.heap.size (fun q => w2.heap.size ≤ q) u out ∧ Below w2.heap.size w2 wr) (fun u _ => nn.length - lenV u)
    case atStart => exact ⟨[], .nil, ⟨none, 0, rfl⟩, Kd.R_nil _ _ _ _ _, Below.refl _ _⟩
    case round =>
      obtain ⟨W, hW⟩ : ∃ W : World, W = wr := ⟨_, rfl⟩
      subst hW
      obtain ⟨out, hO, ⟨A', c', rfl⟩, hR, hB⟩ := hrel
      have hol := hO.ok.le
      rw [HNN.out] at hol
      by_cases hlt : out.length < nn.length
      · have hltI : (out.length : Int) < (nn.length : Int) := by omega
        have sW := hB.size
        have HO := hid (And.intro hO (And.intro hR hB))
        clear hO hR hB
        go_wp2_with fail
        go_loopw [7, 29] (fun u i wr2 => ∃ j : Nat, j ≤ nn.length ∧ u = .slice A' out.length c' ∧ i = .int .i64 j ∧ (∀ x ∈ nn.take j, ¬ Elig G out x) ∧ Below W.heap.size W wr2) (fun _ i _ => nn.length - (intOf i).toNat)
        case atStart => exact ⟨0, Nat.zero_le _, rfl, rfl, fun y hy => (by cases hy), Below.refl _ _⟩
        case round =>
          obtain ⟨j, hj, rfl, rfl, hno, hBi⟩ := hrel
          by_cases hlt2 : j < nn.length
          · have hltJ : (j : Int) < (nn.length : Int) := by omega
            cases A1 with
            | none =>
              have := KS_none HN.out
              subst this
              simp at hlt2
            | some ad =>
            have hB2i : Below w2.heap.size w2 wr := HO.out.2.2.trans (hBi.mono sW)
            have hBw := below_step HB.out hB2i
            have hcell := pw_cell_below hB2i (KS_at HN.out hlt2)
            have hgm := HG.out.below hBw
            have hys : (nn[j]).size ≤ 32 := hgm.name_small (by rw [HNN.out]; exact List.getElem_mem hlt2)
            have hat : nn[j]? = some nn[j] := List.getElem?_eq_getElem hlt2
            have htk2 : nn.take (j + 1) = nn.take j ++ [nn[j]] := List.take_succ_eq_append_getElem hlt2
            have hRi := Kd.R_below HO.out.2.1 hBi
            have hCi := (Kd.R_reads' hRi).2.2
            have hct := contains_any (c := c') hCi nn[j]
            obtain ⟨b, A, c, m1, m2, _, m3, m4⟩ := hgm.cell (s := nn[j]) (by omega)
            have hil := hgm.ok.imp_short nn[j]
            have hmn := Minus_any (c := c) (c2 := c') m4 hCi (by omega)
            have hel : Elig G out nn[j] ↔ nn[j] ∉ out ∧ ((setS (gImp G nn[j])).filter (fun x => !has out x)).length = 0 := by
              rw [minus_none]
              exact Iff.rfl
            generalize nn[j] = y at hcell hys hat htk2 hct m2 m3 m4 hil hmn hel
            have HX := hid (And.intro hno (And.intro hBi (And.intro hRi (And.intro hat (And.intro htk2 hel)))))
            have sBi := hBi.size
            clear hno hBi hB2i hBw hgm hat htk2 hRi hCi m4 hel
            have hnext : ¬ Elig G out y → ∀ x ∈ nn.take (j + 1), ¬ Elig G out x := fun h x hx => by
              rw [HX.out.2.2.2.2.1] at hx
              rcases List.mem_append.1 hx with hx | hx
              · exact HX.out.1 x hx
              · have : x = y := by simpa using hx
                subst this
                exact h
            have HNX := hid hnext
            clear hnext
            cases hp : has out y with
            | true =>
              rw [hp] at hct
              have hne : ¬ Elig G out y := fun h => h.1 (has_iff.1 hp)
              have HNE := hid (HNX.out hne)
              clear hp hmn hne
              go_wp2_with fail
              refine hct.mono ?_
              rintro e w4 ⟨rfl, rfl⟩
              clear hct
              go_wp2
              go_roundw
              case rel => exact ⟨j + 1, by omega, rfl, by go_num, HNE.out, HX.out.2.1⟩
              case measure => simp [intOf]; omega
            | false =>
              rw [hp] at hct
              have hnin : y ∉ out := fun h => by rw [has_true h] at hp; cases hp
              clear hp
              generalize hmm : (setS (gImp G y)).filter (fun x => !has out x) = mm at hmn
              have HMM := hid hmm
              clear hmm
              go_wp2_with fail
              refine hct.mono ?_
              rintro e w4 ⟨rfl, rfl⟩
              clear hct
              go_wp2_with fail
              refine hmn.mono ?_
              rintro e w5 ⟨A7, c7, rfl, hR7, b7⟩
              have hBi5 := below_step HX.out.2.1 b7
              have hRi5 := Kd.R_below HX.out.2.2.1 b7
              clear hmn hR7
              by_cases hz : mm.length = 0
              · have hEl : Elig G out y := HX.out.2.2.2.2.2.2 ⟨hnin, by rw [HMM.out]; exact hz⟩
                have hpk : PickS G out y j := ⟨by rw [HNN.out]; exact HX.out.2.2.2.1, hEl, fun i x hi hx => by
                  rw [HNN.out] at hx
                  refine HX.out.1 x ?_
                  rw [List.mem_iff_getElem?]
                  exact ⟨i, by rw [List.getElem?_take]; simp [hi, hx]⟩⟩
                have hOT := OrdTo.snoc HO.out.1 hpk
                have hB25 : Below w2.heap.size w2 w5 := HO.out.2.2.trans (hBi5.mono sW)
                have s5 := hB25.size
                have HF := hid (And.intro hOT (And.intro hB25 hRi5))
                clear hEl hpk hOT hB25 hBi5 b7
                go_wp2_with (at_builtin; refine Kd.R_append KS (w0 := w2) (W := w5) w.heap.size rfl (.tmp 49) (.tmp 51) 30 9 (.string ⟨#[]⟩) 16 rfl Try.underlying30 info_str rfl (by decide) (by decide) _ _ y [.string y] (fun q => w2.heap.size ≤ q) (fun _ => False) rfl rfl rfl (fun _ h => h.elim) (fun q hq => Nat.le_trans s5 hq) hRi5 ?HB ?hb ?hl ?_)
                case HB => exact HF.out.2.1.mono hs2
                case hb => omega
                case hl => omega
                intro v2 w6 hR6 _ hg6 _
                have hB6 := HF.out.2.1.grown hg6 s5 (fun q hq => hRi5.1 q hq)
                obtain ⟨A9, c9, rfl⟩ := Kd.R_slice hR6
                have HF2 := hid (And.intro hR6 hB6)
                clear hRi5 hg6 hR6 hB6
                go_wp2
                go_roundw
                case rel => exact ⟨out ++ [y], HF.out.1, ⟨A9, c9, rfl⟩, HF2.out.1, HF2.out.2⟩
                case measure => simp [lenV]; omega
              · have hzI : ¬ (mm.length : Int) = 0 := by omega
                have hne : ¬ Elig G out y := fun h => hz (by rw [← HMM.out]; exact (HX.out.2.2.2.2.2.1 h).2)
                have HNE := hid (And.intro (HNX.out hne) hBi5)
                clear hne hBi5 hRi5 b7
                go_wp2
                go_roundw
                case rel => exact ⟨j + 1, by omega, rfl, by go_num, HNE.out.1, HNE.out.2⟩
                case measure => simp [intOf]; omega
          · have hltJ : ¬ (j : Int) < (nn.length : Int) := by omega
            obtain rfl : nn.length = j := by omega
            rw [List.take_length] at hno
            have HF := hid (And.intro hno (below_step HB.out (HO.out.2.2.trans (hBi.mono sW))))
            clear hno hBi
            go_wp2
            go_ret2
            exact ⟨[], 32, _, .inr ⟨HM.out.1, .inr ⟨rfl, rfl, ⟨out, HO.out.1, by rw [HNN.out]; exact hlt, fun n hn => HF.out.1 n (by rw [← HNN.out]; exact hn)⟩⟩⟩, rfl, RdL.nil _, HF.out.2⟩
      · have hltI : ¬ (out.length : Int) < (nn.length : Int) := by omega
        have HF := hid (And.intro hO (And.intro (RdL.of hR) (below_step HB.out hB)))
        clear hO hR hB
        go_wp2
        go_ret2
        exact ⟨out, 0, _, .inr ⟨HM.out.1, .inl ⟨rfl, HF.out.1, by rw [HNN.out]; omega⟩⟩, rfl, HF.out.2.1, HF.out.2.2⟩
end Go.Proofs.Ytcjdpccbkfnnlaa

set_option linter.unusedVariables false
set_option linter.unusedSimpArgs false
namespace Go.Proofs.Ytcjdpccbkfnnlaa
open Go.RowKit Go.Sort Go.Proofs.YtcjdpccbkfnnlaaW.PrintWords Go.Proofs.YtcjdpccbkfnnlaaW.PrintMore
attribute [local go_sem] max2_int max_two

abbrev KL : Kd (List ByteArray) := Kd.slice 9 KS
theorem info_strs : (Try.prog.info? 30).map (fun i => (i.zero, i.size, i.bytes)) = some (some (.slice none 0 0), 1, 24) := by kernel_rfl
theorem mx_take (f : ByteArray → Nat) (l : List ByteArray) (j : Nat) (h : j < l.length) : mx f (l.take (j + 1)) = max (mx f (l.take j)) (f l[j] + 1) := by rw [List.take_succ_eq_append_getElem h, mx_snoc]
theorem mx_bound {f : ByteArray → Nat} {l : List ByteArray} {j m : Nat} (h : ∀ y ∈ l, f y + 1 ≤ m) : mx f (l.take j) ≤ m := mx_le.2 (fun y hy => h y (List.mem_of_mem_take hy))
theorem OrdTo.take {G : PG} {o : List ByteArray} (h : OrdTo G o) (k : Nat) : OrdTo G (o.take k) := OrdTo.front (b := o.drop k) (by rw [List.take_append_drop]; exact h)
/-- What Levels hands out. -/
def LevE (G : PG) (w w' : World) (e : Ending) : Prop := ∃ (o : List ByteArray) (E : Int) (ls : List (List ByteArray)) (A : Option Addr) (c : Nat), OrderS G o E ∧ (E = 0 → ls = (lvRun G o).2) ∧ (E ≠ 0 → ls = []) ∧ e = .returned (.tuple #[.slice A ls.length c, .int .i64 E]) ∧ ls.length ≤ c ∧ KL.C w' A ls.length ls ∧ Below w.heap.size w w'
set_option maxRecDepth 100000 in
set_option maxHeartbeats 8000000 in
theorem levels_any {w : World} {p : Nat} {G : PG} (h : GMem w p G) : Calls Try.prog 20 #[.pointer (some ⟨p, 0, none⟩)] w fun e w' => LevE G w w' e := by
  have hor := order_any h
  have hmm := fun W => run_makeMap (P := Try.prog) (w := W) (t := 65)
  have HG := hid h
  clear h
  go_enter Try.func20, Try.ntmps20
  go_wp2_with fail
  refine hor.mono ?_
  rintro e w1 ⟨o, E, u, hO, rfl, hu, b1⟩
  clear hor
  by_cases hE : E = 0
  · subst hE
    have hOT : OrdTo G o := by
      rcases hO with ⟨_, _, h⟩ | ⟨_, ⟨_, h⟩ | ⟨h, _⟩⟩
      · cases h
      · exact h.1
      · cases h
    obtain ⟨A0, c0, rfl, hl0, hC0⟩ := hu
    have hM0 := MapV.made Try.prog 9 w1
    have hb0 := below_alloc (Below.refl w1.heap.size w1) (.map #[] 0)
    have hol : o.length ≤ 32 := by have := hOT.ok.le; have := HG.out.ok.names_len; omega
    have HO := hid (And.intro hO (And.intro hOT (And.intro hl0 (And.intro hC0 b1))))
    clear hO hOT hl0 hC0 b1
    go_upto_block 0 with (fail)
    generalize w1.alloc (.map #[] 0) = w2 at hM0 hb0 ⊢
    go_wp2_with fail
    go_loopw [7, 24] (fun u i wr => ∃ k : Nat, k ≤ o.length ∧ i = .int .i64 k ∧ (∃ A c, u = .slice A (lvRun G (o.take k)).2.length c) ∧ Kd.S KL 30 wr w1.heap.size (fun q => w1.heap.size < q) u (lvRun G (o.take k)).2 ∧ MapT wr w1.heap.size (lvRun G (o.take k)).1.length (lvRun G (o.take k)).1 ∧ Below w1.heap.size w1 wr) (fun _ i _ => o.length - (intOf i).toNat)
    case atStart => exact ⟨0, Nat.zero_le _, rfl, ⟨none, 0, rfl⟩, Kd.S_nil _ _ _ _ _, hM0.congr (fun x => rfl), hb0⟩
    case round =>
      clear hM0 hb0
      obtain ⟨W, hW⟩ : ∃ W : World, W = wr := ⟨_, rfl⟩
      subst hW
      obtain ⟨k, hk, rfl, ⟨A', c', rfl⟩, hS, hM, hB⟩ := hrel
      by_cases hlt : k < o.length
      · have hltI : (k : Int) < (o.length : Int) := by omega
        cases A0 with
        | none =>
          have := KS_none HO.out.2.2.2.1
          subst this
          simp at hlt
        | some ad =>
        have hcell := pw_cell_below hB (KS_at HO.out.2.2.2.1 hlt)
        have hBw := below_step HO.out.2.2.2.2 hB
        have hgm := HG.out.below hBw
        have hok := HO.out.2.1.ok
        have hxn : o[k] ∈ gNames G := hok.sub _ (List.getElem_mem hlt)
        have hxs := hgm.name_small hxn
        have himp := hok.early k hlt
        have hlo := lvRun_ok (HO.out.2.1.take k)
        have hsn : lvRun G (o.take (k + 1)) = lvStep G (lvRun G (o.take k)) o[k] := by rw [List.take_succ_eq_append_getElem hlt, lvRun_snoc]
        have hnk : o[k] ∉ o.take k := fun h => by
          obtain ⟨i, hi, e⟩ := List.mem_iff_getElem.1 h
          rw [List.length_take] at hi
          rw [List.getElem_take] at e
          exact (List.pairwise_iff_getElem.1 hok.nd) i k (by omega) hlt (by omega) e
        obtain ⟨bg, A, c, m1, m2, _, m3, m4⟩ := hgm.cell (s := o[k]) (by omega)
        have hil := hgm.ok.imp_short o[k]
        have hxi : ∀ y ∈ gImp G o[k], y.size ≤ 32 := fun y hy => hgm.imp_small hy
        have hll : (lvRun G (o.take k)).1.length ≤ 32 := by
          have := congrArg List.length hlo.keys
          rw [List.length_map, List.length_take] at this
          omega
        have hl2 : (lvRun G (o.take k)).2.length ≤ k := lvRun_len G o k
        generalize hst : lvRun G (o.take k) = st at hS hM hlo hsn hll hl2 ⊢
        generalize hst2 : lvRun G (o.take (k + 1)) = st2 at hsn
        have HST := hid hst2
        clear hst hst2 hok hxn
        have hkey : lk st.1 o[k] = none := by
          cases e : lk st.1 o[k] with
          | none => rfl
          | some j =>
            have h1 : o[k] ∈ st.1.map (·.1) := List.mem_map.2 ⟨_, lk_mem e, rfl⟩
            rw [hlo.keys] at h1
            exact absurd h1 hnk
        have hmx : ∀ y ∈ gImp G o[k], lvOf st.1 y + 1 ≤ st.2.length := fun y hy => hlo.lt y (himp y hy)
        generalize o[k] = x at hcell hxs m2 m3 m4 hil hxi hsn hkey hmx himp
        have HM := hid (And.intro hxi (And.intro m4 hmx))
        have HR := hid (And.intro hS (And.intro hM (And.intro hB (And.intro hlo (And.intro hsn hkey)))))
        have hml : ∀ j, mx (lvOf st.1) ((gImp G x).take j) ≤ 64 := fun j => Nat.le_trans (mx_bound hmx) (by omega)
        have HML := hid hml
        clear hxi m4 hmx hS hB hlo hsn hkey himp hml hgm hBw hnk
        generalize hii : gImp G x = ii at m2 m3 HM hil HML
        have HII := hid hii
        clear hii
        have hlk := fun y (hy : y ∈ ii) => (MapT.look hM (s := y) (by have := HM.out.1 y hy; omega)).1
        have HLK := hid hlk
        clear hlk hM
        go_upto_block 2 with (fail)
        go_cut [10] (fun kv wc => kv = .int .i64 (mx (lvOf st.1) ii : Nat) ∧ wc = W)
        case first =>
          go_wp2_with fail
          go_loopw [10, 35] (fun kv i wr2 => ∃ j : Nat, j ≤ ii.length ∧ kv = .int .i64 (mx (lvOf st.1) (ii.take j) : Nat) ∧ i = .int .i64 j ∧ wr2 = W) (fun _ i _ => ii.length - (intOf i).toNat)
          case atStart => exact ⟨0, Nat.zero_le _, rfl, rfl, rfl⟩
          case round =>
            obtain ⟨j, hj, rfl, rfl, rfl⟩ := hrel
            by_cases hlt2 : j < ii.length
            · have hltJ : (j : Int) < (ii.length : Int) := by omega
              cases A with
              | none =>
                have := KS_none HM.out.2.1
                subst this
                simp at hlt2
              | some ad2 =>
              have hcell2 := KS_at HM.out.2.1 hlt2
              have hl1 := HLK.out ii[j] (List.getElem_mem hlt2)
              have hmt := mx_take (lvOf st.1) ii j hlt2
              have hb1 := HML.out j
              have hb2 := HML.out (j + 1)
              have hb3 : lvOf st.1 ii[j] + 1 ≤ 64 := by rw [hmt] at hb2; omega
              have HMT := hid hmt
              generalize ii[j] = y at hcell2 hl1 hmt HMT hb3
              generalize hm0 : mx (lvOf st.1) (ii.take j) = m0 at hb1 HMT
              generalize lvOf st.1 y = l0 at hl1 hb3 HMT
              clear hmt hb2
              by_cases hle : m0 ≤ l0 + 1
              · have hmm2 : max m0 (l0 + 1) = l0 + 1 := by omega
                have hleI : (m0 : Int) ≤ (l0 : Int) + 1 := by omega
                have HM2 := hid hmm2
                clear hmm2 hm0
                go_wp2
                go_roundw
                case rel => exact ⟨j + 1, by omega, by rw [HMT.out, HM2.out]; go_num, by go_num, by first | rfl | trivial⟩
                case measure => simp [intOf]; omega
              · have hmm2 : max m0 (l0 + 1) = m0 := by omega
                have hleI : ¬ (m0 : Int) ≤ (l0 : Int) + 1 := by omega
                have HM2 := hid hmm2
                clear hmm2 hm0
                go_wp2
                go_roundw
                case rel => exact ⟨j + 1, by omega, by rw [HMT.out, HM2.out]; go_num, by go_num, by first | rfl | trivial⟩
                case measure => simp [intOf]; omega
            · have hltJ : ¬ (j : Int) < (ii.length : Int) := by omega
              obtain rfl : ii.length = j := by omega
              rw [List.take_length] at *
              go_wp2_with fail
              go_meet
              case rel => exact ⟨rfl, rfl⟩
        case rest =>
          obtain ⟨rfl, rfl⟩ := hcut
          obtain ⟨hS, hM, hB, hlo, hsn, hkey⟩ := HR.out
          have hkk : mx (lvOf st.1) ii ≤ st.2.length := mx_le.2 (fun y hy => HM.out.2.2 y hy)
          unfold lvStep at hsn
          dsimp only at hsn
          rw [HII.out] at hsn
          generalize mx (lvOf st.1) ii = kk at hkk hsn ⊢
          have hMb := hM.lt
          have HS := hid (And.intro hS (And.intro hB (And.intro hlo hsn)))
          clear hS hB hlo hsn HR HLK HML
          go_wp2_with (at_mapUpdate; refine wpList_put _ rfl _ _ _ 65 3 rfl Try.underlying9 Try.underlying65 rfl hM (by unfold maxLen; omega) x (.int .i64 kk) (by unfold maxLen; omega) rfl rfl ?_)
          intro w3 hM3 hg3
          obtain ⟨hS, hB, hlo, hsn⟩ := HS.out
          have sW := hB.size
          have hM3' := MapT.put hM3 hkey
          have hB3 : Below w1.heap.size w1 w3 := hB.grown hg3 sW (fun q hq => by injection hq with hq; omega)
          have hS3 := Kd.S_grown hS hg3 (fun q hq e => by injection e with e; omega)
          have s3 := hB3.size
          have s3l : w1.heap.size < w3.heap.size := MapV.lt hM3'
          have HS3 := hid (And.intro hS3 (And.intro hM3' (And.intro hB3 (And.intro hlo hsn))))
          clear hS hB hlo hsn hM3 hg3 hM3' hB3 HS hM
          generalize hlev : st.2 = lev at hS3 HS3 hkk hl2 ⊢
          have HLEV := hid hlev
          clear hlev
          go_upto_if 52 with (fail)
          go_cut [7, 10] (fun u kv wc => kv = .int .i64 (kk : Nat) ∧ ∃ lev' : List (List ByteArray), lev' = (if kk = lev.length then lev ++ [[]] else lev) ∧ (∃ A c, u = .slice A lev'.length c) ∧ Kd.S KL 30 wc w1.heap.size (fun q => w1.heap.size < q) u lev' ∧ MapT wc w1.heap.size (st.1.length + 1) (st.1 ++ [(x, kk)]) ∧ Below w1.heap.size w1 wc)
          case first =>
            by_cases hke : kk = lev.length
            · have hkeI : (kk : Int) = (lev.length : Int) := by omega
              have HKE := hid hke
              clear hke
              go_wp2_with (at_builtin; refine Kd.S_append KL (w0 := w1) (W := w3) w1.heap.size rfl (.tmp 53) (.tmp 54) 40 30 (.slice none 0 0) 24 rfl Try.underlying40 info_strs rfl (by decide) (by decide) _ lev [] [.slice none 0 0] (fun q => w1.heap.size < q) (fun _ => False) rfl rfl ⟨_, rfl, Kd.R_nil _ _ _ _ _⟩ (fun _ h => h.elim) (fun q hq => by omega) ?HS ?HB ?hb ?hl ?_)
              case HS => exact Kd.S_mono hS3 (fun q hq => ⟨hq, fun h => h⟩)
              case HB => exact HS3.out.2.2.1
              case hb => exact s3
              case hl => omega
              intro v4 w4 hS4 hB4 hg4 _
              have hM4 : MapT w4 w1.heap.size (st.1.length + 1) (st.1 ++ [(x, kk)]) :=
                MapV.block HS3.out.2.1 (hg4.block _ (MapV.lt HS3.out.2.1) (fun e => Nat.lt_irrefl _ ((Kd.S_R hS3).1 _ e.symm)))
              obtain ⟨A4, c4, rfl⟩ := Kd.S_slice hS4
              have HF := hid (And.intro hS4 (And.intro hM4 hB4))
              clear hS4 hM4 hB4 hg4 hS3
              go_wp2_with fail
              go_meet
              case rel => exact ⟨by rw [HKE.out], lev ++ [[]], by rw [if_pos HKE.out], ⟨A4, c4, rfl⟩, HF.out.1, HF.out.2.1, HF.out.2.2⟩
            · have hkeI : ¬ (kk : Int) = (lev.length : Int) := by omega
              go_wp2_with fail
              go_meet
              case rel => exact ⟨rfl, lev, by rw [if_neg hke], ⟨A', c', rfl⟩, hS3, HS3.out.2.1, HS3.out.2.2.1⟩
          case rest =>
            clear hS3
            obtain ⟨rfl, lev', hlev', ⟨A5, c5, rfl⟩, hS5, hM5, hB5⟩ := hcut
            have hkl : kk < lev'.length := by
              rw [hlev']
              split
              · simp; omega
              · omega
            have hll' : lev'.length ≤ 64 := by
              rw [hlev']
              split
              · simp; omega
              · omega
            have hgk : (lev'[kk]?).getD [] = lev'[kk] := by simp [hkl]
            have hres : st2 = (st.1 ++ [(x, kk)], lev'.set kk (setS (lev'[kk] ++ [x]))) := by
              have := HS3.out.2.2.2.2
              rw [← hlev', hgk] at this
              exact this
            obtain ⟨g, cap, hge, hgb, hgl, cells, hgc⟩ := Kd.S_form hS5 (by omega)
            injection hge with hge1 hge2 hge3
            subst hge1 hge3
            obtain ⟨oki, cc, hcl, hMk, hcc, hfr, hoki, hH⟩ := Kd.S_elem (Kd.S_mono (Kd.S_bound hS5) (ok' := fun q => w1.heap.size < q ∧ ¬ wc.heap.size ≤ q) (fun q hq => ⟨hq.1, by have := hq.2.2.1; omega⟩)) ([] : List ByteArray) (kk : Int) (by omega) (by omega)
            obtain ⟨v, rfl, hRv⟩ := hMk
            rw [Int.toNat_natCast] at hRv hcc
            have hgd : lev'.getD kk [] = lev'[kk] := by simp [List.getD_eq_getElem?_getD, hkl]
            rw [hgd] at hRv
            obtain ⟨Av, cv, rfl⟩ := Kd.R_slice hRv
            have hcv : wc.cell? ⟨g, kk, none⟩ = some (.slice Av lev'[kk].length cv) := by
              have := hcc 0 _ rfl
              simpa [KL, Kd.slice] using this
            have hle0 : ∀ q ∈ lev', q.length ≤ 32 := fun q hq => by
              have hold : ∀ q ∈ lev, q.length ≤ 32 := fun q hq => by
                obtain ⟨i, hi, rfl⟩ := List.mem_iff_getElem.1 hq
                have hlo := HS3.out.2.2.2.1
                have := (hlo.so _ hq).len_le (b := o.take k) (fun y hy => ((hlo.mem i hi y).1 hy).1)
                rw [List.length_take] at this
                omega
              rw [hlev'] at hq
              split at hq
              · rcases List.mem_append.1 hq with hq | hq
                · exact hold q hq
                · have : q = [] := by simpa using hq
                  subst this
                  simp
              · exact hold q hq
            have hle1 : lev'[kk].length ≤ 32 := hle0 _ (List.getElem_mem hkl)
            clear hle0
            have hRv' : KS.R 9 wc w1.heap.size (fun q => oki q ∨ wc.heap.size ≤ q) (.slice Av lev'[kk].length cv) lev'[kk] := Kd.R_mono hRv (fun q hq => .inl hq)
            have s5 := hB5.size
            have s5l : w1.heap.size < wc.heap.size := MapV.lt hM5
            have hset : st2.2 = lev'.set kk (setS (lev'[kk] ++ [x])) := by rw [hres]
            have htab : st2.1 = st.1 ++ [(x, kk)] := by rw [hres]
            have hkl' : (kk : Int) < (lev'.length : Int) := by omega
            have HX := hid (And.intro hH (And.intro hoki (And.intro hM5 (And.intro hB5 (And.intro hset (And.intro htab (And.intro (And.intro hgl hgc) hRv)))))))
            generalize hel : lev'[kk] = el at hcv hle1 hRv' HX
            have hfk : wc.frozen? ⟨g, kk, none⟩ = false := by have := hfr 0; simpa [KL, Kd.slice] using this
            have hgne : ∀ q, oki q → q ≠ g := fun q hq => (hoki q hq).2
            clear hel hgd hRv hcc hfr hH hoki hM5 hB5 hset htab hres hgk hcl hS5 hgc hgb hgl hge2 hlev'
            go_wp2_with (at_builtin; refine Kd.R_append KS (w0 := w1) (W := wc) w1.heap.size rfl (.tmp 61) (.tmp 63) 30 9 (.string ⟨#[]⟩) 16 rfl Try.underlying30 info_str rfl (by decide) (by decide) _ _ x [.string x] (fun q => oki q ∨ wc.heap.size ≤ q) (fun _ => False) rfl rfl rfl (fun _ h => h.elim) (fun q hq => .inr hq) hRv' ?HB ?hb ?hl ?_)
            case HB => exact HX.out.2.2.2.1
            case hb => exact s5
            case hl => omega
            intro v6 w6 hR6 hB6 hg6 _
            obtain ⟨A6, c6, rfl⟩ := Kd.R_slice hR6
            have hell : (el ++ [x]).length ≤ 33 := by simp; omega
            generalize el ++ [x] = ell at hR6 hell HX ⊢
            have hC6 := (Kd.R_reads' hR6).2.2
            have hst6 := Set_any (c := c6) hC6 (by omega)
            have hrow : ∀ q, (Value.slice Av el.length cv).ownBlock = some q → oki q := fun q hq => HX.out.2.2.2.2.2.2.2.1 q hq
            have hH6 := Kd.H_grown HX.out.1 hg6 hrow
            have hM6 := MapV.block (w1 := w6) HX.out.2.2.1 (hg6.block _ (MapV.lt HX.out.2.2.1) (fun e => by have := (HX.out.2.1 _ (hrow _ e.symm)).1.1; omega))
            have s6 := hg6.size
            have hgc6 := (hg6.block g HX.out.2.2.2.2.2.2.1.1 (fun e => hgne _ (hrow _ e.symm) rfl)).trans HX.out.2.2.2.2.2.2.1.2
            have hck : cells[kk]? = some (.slice Av el.length cv) := by
              have := cell_of_row wc g kk _ _ _ HX.out.2.2.2.2.2.2.1.2
              rw [hcv] at this
              exact this.symm
            have H6 := hid (And.intro hH6 (And.intro hM6 (And.intro hB6 (And.intro hgc6 hck))))
            generalize hse : setS ell = se at hst6 HX
            clear hR6 hB6 hg6 hC6 hH6 hM6 hcv hfk hRv' hse hgc6 hck
            go_wp2_with fail
            refine hst6.mono ?_
            rintro e w7 ⟨A7, c7, rfl, hR7, b7⟩
            obtain ⟨hH6, hM6, hB6, hgc6, hck⟩ := H6.out
            have hH7 := Kd.H_below hH6 b7
            have hgc7 := (b7.block g (blk_lt hgc6)).trans hgc6
            have hcv7 : w7.cell? ⟨g, kk, none⟩ = some (.slice Av el.length cv) := by rw [cell_of_row w7 g kk _ _ _ hgc7]; exact hck
            have hfk7 := frozen_of_row w7 g kk _ _ hgc7
            have hM7 := MapV.below hM6 b7
            have hB7 : Below w1.heap.size w1 w7 := hB6.trans (b7.mono hB6.size)
            have hM8 : KL.M w7 w1.heap.size (fun q => wc.heap.size ≤ q) se ([].take 0 ++ [.slice A7 se.length c7] ++ []) := ⟨_, rfl, Kd.R_mono (Kd.R_lower hR7 hB6.size) (fun q hq => by omega)⟩
            clear hst6 hR7 hH6 hM6 hB6 b7
            obtain ⟨hS8, hg8⟩ := Kd.S_seg (ok := fun q => w1.heap.size < q) (okg := fun q => wc.heap.size ≤ q) hH7 (by omega) (by omega) (seg := [.slice A7 se.length c7]) (j := 0) (Nat.le_refl _) hM8 (fun q hq => .inr hq) (fun q hq => ⟨by omega, fun e => by have := HX.out.2.2.2.2.2.2.1.1; omega⟩)
            have hse1 : w7.setCells g ((kk : Int).toNat * KL.sz + 0) [.slice A7 se.length c7] = w7.setCell ⟨g, kk, none⟩ (.slice A7 se.length c7) := by
              rw [Int.toNat_natCast, show kk * KL.sz + 0 = kk from by simp [KL, Kd.slice]]
              rfl
            rw [hse1, Int.toNat_natCast] at hS8
            rw [hse1] at hg8
            have hM9 := MapV.block (w1 := w7.setCell ⟨g, kk, none⟩ (.slice A7 se.length c7)) hM7 (hg8.block _ (MapV.lt hM7) (fun e => by
              injection e with e
              obtain ⟨D, ⟨es, clock, hm, _⟩, _⟩ := hM7
              rw [e, hgc7] at hm
              cases hm))
            have hB8 : Below w1.heap.size w1 (w7.setCell ⟨g, kk, none⟩ (.slice A7 se.length c7)) := hB7.setCell (p := ⟨g, kk, none⟩) (by
              have := (Kd.S_R hS8).1 g rfl
              show w1.heap.size ≤ g
              omega) _
            have e1 : st2.2.length = lev'.length := by rw [HX.out.2.2.2.2.1, List.length_set]
            have e2 : st2.1.length = st.1.length + 1 := by rw [HX.out.2.2.2.2.2.1]; simp
            rw [← HX.out.2.2.2.2.1] at hS8
            have hM10 : MapT (w7.setCell ⟨g, kk, none⟩ (.slice A7 se.length c7)) w1.heap.size st2.1.length st2.1 := by rw [e2, HX.out.2.2.2.2.2.1]; exact hM9
            have HE1 := hid e1
            have HF := hid (And.intro hS8 (And.intro hM10 hB8))
            clear hS8 hM9 hM10 hg8 hB8 e1 e2 hH7 hM8 hM7 hB7 hgc7 hse1 hgc6 hck
            go_wp2
            go_roundw
            case rel =>
              refine ⟨k + 1, by omega, by go_num, ?_⟩
              rw [HST.out]
              exact ⟨⟨_, _, by rw [HE1.out]⟩, HF.out.1, HF.out.2.1, HF.out.2.2⟩
            case measure => simp [intOf]; omega
      · have hltI : ¬ (k : Int) < (o.length : Int) := by omega
        obtain rfl : o.length = k := by omega
        rw [List.take_length] at hS hM ⊢
        have HF := hid (And.intro (Kd.S_reads' hS).2 (below_step HO.out.2.2.2.2 hB))
        clear hS hM hB
        go_wp2
        go_ret2
        exact ⟨o, 0, _, A', c', HO.out.1, fun _ => rfl, fun h => absurd rfl h, rfl, HF.out.1.1, HF.out.1.2, HF.out.2⟩
  · have hEI : (E == 0) = false := by simpa using hE
    have ho : o = [] ∨ True := .inr trivial
    have HF := hid (And.intro hO b1)
    clear hO b1 hu
    go_wp2
    go_ret2
    exact ⟨o, E, [], none, 0, HF.out.1, fun h => absurd h hE, fun _ => rfl, rfl, Nat.le_refl _, (Kd.R_reads' (Kd.R_nil KL 30 _ 0 (fun _ => True))).2.2, HF.out.2⟩
end Go.Proofs.Ytcjdpccbkfnnlaa

set_option linter.unusedVariables false
set_option linter.unusedSimpArgs false
namespace Go.Proofs.Ytcjdpccbkfnnlaa

/-- The graph of some nodes: by name, each one's imports as a set. -/
def newG (l : PG) : PG := (setS (gNames l)).map (fun s => (s, setS (gImp l s)))
theorem newG_names (l : PG) : gNames (newG l) = setS (gNames l) := by
  unfold newG gNames
  rw [List.map_map]
  exact List.map_id _
theorem setS_nil' : setS [] = [] := setS_eq Sorted.nil (fun _ => Iff.rfl)
theorem find_map_name (f : ByteArray → List ByteArray) : ∀ (ns : List ByteArray) (s : ByteArray), s ∈ ns → gImp (ns.map (fun x => (x, f x))) s = f s
  | [], s, h => by cases h
  | n :: ns, s, h => by
    unfold gImp
    rw [List.map_cons, List.find?_cons]
    by_cases e : n = s
    · subst e
      simp
    · have e' : s ∈ ns := by
        rcases List.mem_cons.1 h with rfl | h
        · exact absurd rfl e
        · exact h
      have ih := find_map_name f ns s e'
      unfold gImp at ih
      simp only [e, decide_false]
      exact ih
theorem newG_imp (l : PG) (s : ByteArray) : gImp (newG l) s = setS (gImp l s) := by
  by_cases h : s ∈ gNames l
  · unfold newG
    rw [find_map_name _ _ _ (mem_setS.2 h)]
  · rw [gImp_none h, setS_nil']
    exact gImp_none (by rw [newG_names]; exact fun h2 => h (mem_setS.1 h2))
theorem newG_mem_names {l : PG} {s : ByteArray} : s ∈ gNames (newG l) ↔ s ∈ gNames l := by rw [newG_names, mem_setS]
theorem newG_GOK {l : PG} (h1 : l.length ≤ 32) (h2 : ∀ n ∈ l, n.2.length ≤ 16) : GOK (newG l) := by
  refine ⟨by rw [newG_names]; exact setS_sorted _, ?_, ?_, ?_⟩
  · intro p hp
    obtain ⟨s, _, rfl⟩ := List.mem_map.1 hp
    exact setS_sorted _
  · unfold newG
    rw [List.length_map]
    have := setS_len (gNames l)
    unfold gNames at this ⊢
    rw [List.length_map] at this
    omega
  · intro p hp
    obtain ⟨s, _, rfl⟩ := List.mem_map.1 hp
    have h := setS_len (gImp l s)
    show (setS (gImp l s)).length ≤ 16
    rcases gImp_mem (G := l) s with h0 | ⟨q, hq, _, h3⟩
    · rw [h0, setS_nil']; simp
    · have := h2 q hq
      rw [h3] at h ⊢
      omega
theorem newG_small {l : PG} (h : ∀ n ∈ l, ∀ s ∈ n.1 :: n.2, s.size ≤ 32) : ∀ q ∈ newG l, q.1.size ≤ 32 ∧ ∀ x ∈ q.2, x.size ≤ 32 := by
  intro q hq
  obtain ⟨s, hs, rfl⟩ := List.mem_map.1 hq
  refine ⟨?_, ?_⟩
  · obtain ⟨n, hn, rfl⟩ := List.mem_map.1 (mem_setS.1 hs)
    exact h n hn _ (.head _)
  · intro x hx
    have hx := mem_setS.1 hx
    rcases gImp_mem (G := l) s with h0 | ⟨q, hq, _, h3⟩
    · rw [h0] at hx; cases hx
    · rw [h3] at hx
      exact h q hq x (.tail _ hx)
theorem gNames_snoc (l : PG) (n : ByteArray × List ByteArray) : gNames (l ++ [n]) = gNames l ++ [n.1] := by simp [gNames]
theorem gImp_snoc {l : PG} {n : ByteArray × List ByteArray} (h : n.1 ∉ gNames l) (s : ByteArray) : gImp (l ++ [n]) s = if s = n.1 then n.2 else gImp l s := by
  unfold gImp
  rw [List.find?_append]
  by_cases e : s = n.1
  · subst e
    have h0 : l.find? (fun p => decide (p.1 = n.1)) = none := by
      rw [List.find?_eq_none]
      intro p hp
      simp only [decide_eq_true_eq]
      exact fun e => h (List.mem_map.2 ⟨p, hp, e⟩)
    rw [h0]
    simp
  · have e' : ¬ n.1 = s := fun h => e h.symm
    cases h0 : l.find? (fun p => decide (p.1 = s)) with
    | some p => simp [e]
    | none => simp [e, e']
theorem gImp_in {l : PG} (hn : (gNames l).Nodup) {n : ByteArray × List ByteArray} (h : n ∈ l) : gImp l n.1 = n.2 := by
  unfold gImp
  rw [find_name hn h]
/-- With the same nodes, the same graph. -/
theorem newG_congr {l m : PG} (hl : (gNames l).Nodup) (hm : (gNames m).Nodup) (hn : ∀ s, s ∈ gNames l ↔ s ∈ gNames m) (hi : ∀ s x, x ∈ gImp l s ↔ x ∈ gImp m s) : newG l = newG m := by
  have e1 : setS (gNames l) = setS (gNames m) := (setS_sorted _).eq (setS_sorted _) (fun x => by rw [mem_setS, mem_setS, hn])
  have e2 : ∀ s, setS (gImp l s) = setS (gImp m s) := fun s => (setS_sorted _).eq (setS_sorted _) (fun x => by rw [mem_setS, mem_setS, hi])
  unfold newG
  rw [e1]
  exact List.map_congr_left (fun s _ => by rw [e2])
end Go.Proofs.Ytcjdpccbkfnnlaa

set_option linter.unusedVariables false
set_option linter.unusedSimpArgs false
namespace Go.Proofs.Ytcjdpccbkfnnlaa
open Go.RowKit Go.Sort Go.Proofs.YtcjdpccbkfnnlaaW.PrintWords Go.Proofs.Ytcjdpccbkfnnlaa.KCarveGA

abbrev SN := S47
abbrev KN : Kd SN := k47
/-- A node as it is. -/
def nd (x : SN) : ByteArray × List ByteArray := (x.f0, x.f1)
/-- A node's two cells. -/
theorem node_at {w : World} {A : Option Addr} {l : List SN} (h : Kd.C KN w A l.length l) {k : Nat} (hk : k < l.length) : ∃ ad A1 c1, A = some ad ∧ (∀ j v, ([.string (l[k]).f0, .slice A1 (l[k]).f1.length c1] : List Value)[j]? = some v → w.cell? ((ad.add (k * 2)).add j) = some v) ∧ (l[k]).f1.length ≤ c1 ∧ KS.C w A1 (l[k]).f1.length (l[k]).f1 := by
  obtain ⟨ad, A1, c1, e, h0, h1, h2, h3⟩ := at_T47 h (k : Int) (by omega) (by omega)
  have hr : rd_T47 l (k : Int) = l[k] := by unfold rd_T47; simp [List.getD_eq_getElem?_getD, hk]
  rw [hr, Int.toNat_natCast] at h0 h1
  rw [hr] at h2 h3
  refine ⟨ad, A1, c1, e, ?_, h2, h3⟩
  intro j v hj
  rcases j with _ | _ | j
  · have hv : v = .string (l[k]).f0 := by simpa using hj.symm
    subst hv
    rw [show (ad.add (k * 2)).add 0 = ad.add (k * 2) from by simp [Addr.add]]
    exact h0
  · have hv : v = .slice A1 (l[k]).f1.length c1 := by simpa using hj.symm
    subst hv
    rw [show (ad.add (k * 2)).add 1 = ⟨(ad.add (k * 2)).block, (ad.add (k * 2)).off + 1, none⟩ from by rw [Addr.add]; simp]
    exact h1
  · simp at hj
def bigN (x : SN) : Bool := decide (16 < x.f1.length)
set_option maxRecDepth 100000 in
theorem big_clos {w : World} (x : SN) (A1 : Option Addr) (c1 : Nat) (hl : x.f1.length ≤ 9223372036854775807) : Calls Try.prog 24 #[.agg #[.string x.f0, .slice A1 x.f1.length c1]] w fun e w' => e = .returned (.bool (bigN x)) ∧ Below w.heap.size w w' := by
  have hb := below_alloc (Below.refl w.heap.size w) (.cells #[.string x.f0, .slice A1 x.f1.length c1] 47)
  by_cases h : 16 < x.f1.length
  · have hI : (16 : Int) < (x.f1.length : Int) := by omega
    have hv : bigN x = true := decide_eq_true h
    rw [hv]
    go_enter Try.func24, Try.ntmps24
    go_wp2
    go_ret
    exact ⟨rfl, hb⟩
  · have hI : ¬ (16 : Int) < (x.f1.length : Int) := by omega
    have hv : bigN x = false := decide_eq_false h
    rw [hv]
    go_enter Try.func24, Try.ntmps24
    go_wp2
    go_ret
    exact ⟨rfl, hb⟩
def IdxR (l : List SN) (w w' : World) (e : Ending) : Prop := ∃ i : Int, e = .returned (.int .i64 i) ∧ (0 ≤ i ↔ ∃ x ∈ l, 16 < x.f1.length) ∧ -1 ≤ i ∧ Below w.heap.size w w'
set_option maxRecDepth 100000 in
set_option maxHeartbeats 4000000 in
theorem index_any {w : World} {A : Option Addr} {c : Nat} {l : List SN} (h : Kd.C KN w A l.length l) (hs : ∀ x ∈ l, x.f1.length ≤ 9223372036854775807) :
    Calls Try.prog 36 #[.slice A l.length c, .func (.func 24) #[] #[]] w fun e w' => IdxR l w w' e := by
  have hn9 : l.length ≤ 9223372036854775807 := h.2.1
  have HC := hid h
  have hef := fun (args : Array Value) (W : World) => enters_of Try.func24 (by kernel_rfl) rfl args W
  clear h
  go_enter Try.func36, Try.ntmps36
  go_wp2_with fail
  go_loopw [8] (fun i wr => ∃ k : Nat, k ≤ l.length ∧ i = .int .i64 k ∧ (∀ x ∈ l.take k, ¬ 16 < x.f1.length) ∧ Below w.heap.size w wr) (fun i _ => l.length - (intOf i).toNat)
  case atStart => exact ⟨0, Nat.zero_le _, rfl, fun x hx => (by cases hx), Below.refl _ _⟩
  case round =>
    obtain ⟨k, hk, rfl, hno, hB⟩ := hrel
    by_cases hlt : k < l.length
    · have hltI : (k : Int) < (l.length : Int) := by omega
      obtain ⟨ad, A1, c1, rfl, hc, hl1, _⟩ := node_at HC.out hlt
      have hcw : ∀ j v, ([.string (l[k]).f0, .slice A1 (l[k]).f1.length c1] : List Value)[j]? = some v → wr.cell? ((ad.add (k * 2)).add j) = some v := fun j v hj => pw_cell_below hB (hc j v hj)
      have htk : l.take (k + 1) = l.take k ++ [l[k]] := List.take_succ_eq_append_getElem hlt
      have hmem : l[k] ∈ l := List.getElem_mem hlt
      have hbc := fun W => big_clos (w := W) l[k] A1 c1 (hs _ hmem)
      generalize l[k] = x at hcw htk hmem hbc hl1
      have HX := hid (And.intro hno (And.intro hB htk))
      have HCW := hid hcw
      have HBC := hid hbc
      clear hno hB htk hcw hc hbc
      go_wp2_with (first | (refine wpList_load_addr rfl 47 (.tmp 14) rfl (ad.add (k * 2)) rfl [.string x.f0, .slice A1 x.f1.length c1] _ HCW.out Try.underlying47 rfl (by kernel_rfl) ?_) | fail)
      refine (HBC.out wr).mono ?_
      rintro e w2 ⟨rfl, b2⟩
      cases hb : bigN x with
      | true =>
        have hxl : 16 < x.f1.length := of_decide_eq_true hb
        have HF := hid (And.intro (below_step HX.out.2.1 b2) hmem)
        clear b2 hmem
        go_wp2
        go_ret
        exact ⟨(k : Int), rfl, ⟨fun _ => ⟨x, HF.out.2, hxl⟩, fun _ => by omega⟩, by omega, HF.out.1⟩
      | false =>
        have hxl : ¬ 16 < x.f1.length := of_decide_eq_false hb
        have hnx : ∀ y ∈ l.take (k + 1), ¬ 16 < y.f1.length := fun y hy => by
          rw [HX.out.2.2] at hy
          rcases List.mem_append.1 hy with hy | hy
          · exact HX.out.1 y hy
          · have : y = x := by simpa using hy
            subst this
            exact hxl
        have HF := hid (And.intro (below_step HX.out.2.1 b2) hnx)
        clear b2 hmem hnx
        go_wp2
        go_roundw
        case rel => exact ⟨k + 1, by omega, by go_num, HF.out.2, HF.out.1⟩
        case measure => simp [intOf]; omega
    · have hltI : ¬ (k : Int) < (l.length : Int) := by omega
      obtain rfl : l.length = k := by omega
      rw [List.take_length] at hno
      have HF := hid (And.intro hno hB)
      clear hno hB
      go_wp2
      go_ret
      exact ⟨-1, rfl, ⟨fun h => absurd h (by omega), fun ⟨x, h1, h2⟩ => absurd h2 (HF.out.1 x h1)⟩, by omega, HF.out.2⟩
/-- Too many imports somewhere? -/
def anyBig (l : List SN) : Bool := l.any (fun x => decide (16 < x.f1.length))
theorem anyBig_iff {l : List SN} : anyBig l = true ↔ ∃ x ∈ l, 16 < x.f1.length := by unfold anyBig; simp
theorem containsF_any {w : World} {A : Option Addr} {c : Nat} {l : List SN} (h : Kd.C KN w A l.length l) (hs : ∀ x ∈ l, x.f1.length ≤ 9223372036854775807) :
    Calls Try.prog 23 #[.slice A l.length c, .func (.func 24) #[] #[]] w fun e w' => e = .returned (.bool (anyBig l)) ∧ Below w.heap.size w w' := by
  have hi := index_any (c := c) h hs
  go_enter Try.func23, Try.ntmps23
  go_wp2_with fail
  refine hi.mono ?_
  rintro e w1 ⟨i, rfl, h1, h2, b1⟩
  cases hb : anyBig l with
  | true =>
    have h3 := h1.2 (anyBig_iff.1 hb)
    clear hi h1
    go_wp2
    go_ret
    exact ⟨by simp [hb], b1⟩
  | false =>
    have h3 : ¬ 0 ≤ i := fun h => by rw [anyBig_iff.2 (h1.1 h)] at hb; cases hb
    have h4 : i < 0 := by omega
    clear hi h1
    go_wp2
    go_ret
    exact ⟨by simp [hb, h3], b1⟩
/-- What New answers. -/
noncomputable def newE (l : PG) : Int := open Classical in
  if 32 < l.length ∨ ∃ n ∈ l, 16 < n.2.length then 3 else if ∃ n ∈ l, ∃ s ∈ n.1 :: n.2, rightE s ≠ 0 then 12 else if ¬ (gNames l).Nodup then 20 else 0
theorem rightE_small {s : ByteArray} (h : rightE s = 0) : s.size ≤ 32 := by
  unfold rightE at h
  split at h
  · cases h
  · split at h
    · cases h
    · split at h
      · cases h
      · omega
def NewE (l : PG) (w w' : World) (e : Ending) : Prop := ∃ v, e = .returned (.tuple #[v, .int .i64 (newE l)]) ∧ (newE l ≠ 0 → v = .pointer none) ∧ (newE l = 0 → ∃ p, v = .pointer (some ⟨p, 0, none⟩) ∧ GMem w' p (newG l)) ∧ Below w.heap.size w w'
theorem nd_names (l : List SN) : gNames (l.map nd) = l.map (·.f0) := by unfold gNames; rw [List.map_map]; rfl
theorem KS_C_cells {w w' : World} {A : Option Addr} {n : Nat} {l : List ByteArray} (h : KS.C w A n l) (hc : ∀ a v, w.cell? a = some v → w'.cell? a = some v) : KS.C w' A n l :=
  ⟨h.1, h.2.1, fun hn => by
    obtain ⟨ad, e, h3⟩ := h.2.2 hn
    refine ⟨ad, e, fun j p hj => ?_⟩
    obtain ⟨c, hs, hr, hcell⟩ := h3 j p hj
    exact ⟨c, hs, hr, fun i u hu => hc _ _ (hcell i u hu)⟩⟩
/-- What is read lies in no map's block. -/
theorem cell_map {w w' : World} {b n : Nat} {f : ByteArray → Option Value} (h : MapV Try.prog 9 w b n f) (hg : w.grownBy w' (some b)) : ∀ a v, w.cell? a = some v → w'.cell? a = some v := by
  intro a v hv
  obtain ⟨D, ⟨es, clock, hm, _⟩, _⟩ := h
  have hne : a.block ≠ b := fun e => by
    unfold World.cell? at hv
    rw [e, hm] at hv
    simp at hv
  have hlt := World.block_lt_of_cell? w a hv
  have hb := hg.block a.block hlt (fun e => hne (by injection e))
  unfold World.cell? at hv ⊢
  rw [hb]
  exact hv
/-- The graph of the first nodes, being made. -/
def Making (pre : PG) (B P : Nat) (w : World) : Prop := w.heap[P]? = some (.cells #[.map (some B)] 57 (0, 0)) ∧ ∃ f, MapV Try.prog 9 w B pre.length f ∧ (∀ s, s ∈ gNames pre ↔ (f s).isSome = true) ∧ ∀ s v, f s = some v → ∃ A c, v = .slice A (setS (gImp pre s)).length c ∧ (setS (gImp pre s)).length ≤ c ∧ KS.C w A (setS (gImp pre s)).length (setS (gImp pre s))
theorem Making.below {pre : PG} {B P : Nat} {w w' : World} (h : Making pre B P w) (hb : Below w.heap.size w w') : Making pre B P w' := by
  obtain ⟨h1, f, h2, h3, h4⟩ := h
  exact ⟨(hb.block P (blk_lt h1)).trans h1, f, h2.below hb, h3, fun s v hv => by
    obtain ⟨A, c, e1, e2, e3⟩ := h4 s v hv
    exact ⟨A, c, e1, e2, Kd.C_below e3 hb⟩⟩
theorem Making.mem {pre : PG} {B P : Nat} {w : World} (h : Making pre B P w) (h1 : pre.length ≤ 32) (h2 : ∀ n ∈ pre, n.2.length ≤ 16) (h3 : ∀ n ∈ pre, ∀ s ∈ n.1 :: n.2, s.size ≤ 32) : GMem w P (newG pre) := by
  obtain ⟨k1, f, k2, k3, k4⟩ := h
  exact ⟨newG_GOK h1 h2, newG_small h3, B, pre.length, f, k1, k2, h1, fun s => by rw [newG_mem_names]; exact k3 s, fun s v hv => by rw [newG_imp]; exact k4 s v hv⟩
theorem Making.put {pre : PG} {B P : Nat} {w : World} (h : Making pre B P w) {n : ByteArray × List ByteArray} (hn : n.1 ∉ gNames pre) (hs : n.1.size ≤ maxLen) (hl : pre.length < maxLen) {A : Option Addr} {c : Nat} (hc : (setS n.2).length ≤ c) (hC : KS.C w A (setS n.2).length (setS n.2)) :
    ∃ w', (Instr.mapUpdate 55 (.map (some B)) (.string n.1) (.slice A (setS n.2).length c)).run Try.prog w = .ok () w' ∧ Making (pre ++ [n]) B P w' ∧ w.grownBy w' (some B) := by
  obtain ⟨k1, f, k2, k3, k4⟩ := h
  obtain ⟨w', hr, h1, hg⟩ := k2.put (t := 55) (e := 30) Try.underlying9 Try.underlying55 hl hs (.slice A (setS n.2).length c)
  have hcm := cell_map k2 hg
  have hPB : P ≠ B := fun e => by
    obtain ⟨D, ⟨es, clock, hm, _⟩, _⟩ := k2
    rw [e, hm] at k1
    cases k1
  refine ⟨w', hr, ⟨(hg.block P (blk_lt k1) (fun e => hPB (by injection e))).trans k1, _, by rw [List.length_append]; exact h1, fun s => ?_, fun s v hv => ?_⟩, hg⟩
  · rw [gNames_snoc, List.mem_append, List.mem_singleton]
    by_cases e : s = n.1
    · simp [e]
    · simp [e, k3 s]
  · rw [gImp_snoc hn]
    by_cases e : s = n.1
    · subst e
      simp at hv
      rw [if_pos rfl]
      exact ⟨A, c, hv.symm, hc, KS_C_cells hC hcm⟩
    · simp [e] at hv
      rw [if_neg e]
      obtain ⟨A', c', e1, e2, e3⟩ := k4 s v hv
      exact ⟨A', c', e1, e2, KS_C_cells e3 hcm⟩
set_option maxRecDepth 100000 in
set_option maxHeartbeats 8000000 in
theorem new_any {w : World} {A : Option Addr} {c : Nat} {l : List SN} (h : Kd.C KN w A l.length l) (hs : ∀ x ∈ l, x.f0.size ≤ 9223372036854775807 ∧ x.f1.length ≤ 9223372036854775807 ∧ ∀ y ∈ x.f1, y.size ≤ 9223372036854775807) :
    Calls Try.prog 8 #[.slice A l.length c] w fun e w' => NewE (l.map nd) w w' e := by
  have hn9 : l.length ≤ 9223372036854775807 := h.2.1
  have hcf := containsF_any (c := c) h (fun x hx => (hs x hx).2.1)
  have HC := hid (And.intro h hs)
  clear h hs
  have hbig : (32 < (l.map nd).length ∨ ∃ n ∈ l.map nd, 16 < n.2.length) ↔ 32 < l.length ∨ anyBig l = true := by
    rw [List.length_map, anyBig_iff]
    refine or_congr Iff.rfl ⟨fun ⟨n, hn, h⟩ => ?_, fun ⟨x, hx, h⟩ => ⟨nd x, List.mem_map.2 ⟨x, hx, rfl⟩, h⟩⟩
    obtain ⟨x, hx, rfl⟩ := List.mem_map.1 hn
    exact ⟨x, hx, h⟩
  by_cases hb0 : 32 < l.length
  · have hbI : (32 : Int) < (l.length : Int) := by omega
    have hE : newE (l.map nd) = 3 := by unfold newE; rw [if_pos (hbig.2 (.inl hb0))]
    clear hcf
    go_enter Try.func8, Try.ntmps8
    go_wp2
    go_ret2
    exact ⟨_, by rw [hE]; rfl, fun _ => rfl, fun h => (by rw [hE] at h; cases h), Below.refl _ _⟩
  · have hbI : ¬ (32 : Int) < (l.length : Int) := by omega
    cases hb1 : anyBig l with
    | true =>
      rw [hb1] at hcf
      have hE : newE (l.map nd) = 3 := by unfold newE; rw [if_pos (hbig.2 (.inr hb1))]
      go_enter Try.func8, Try.ntmps8
      go_wp2_with fail
      refine hcf.mono ?_
      rintro e w1 ⟨rfl, b1⟩
      clear hcf
      go_wp2
      go_ret2
      exact ⟨_, by rw [hE]; rfl, fun _ => rfl, fun h => (by rw [hE] at h; cases h), b1⟩
    | false =>
      rw [hb1] at hcf
      have hnb : ¬ (32 < (l.map nd).length ∨ ∃ n ∈ l.map nd, 16 < n.2.length) := fun h => by
        rcases hbig.1 h with h | h
        · exact hb0 h
        · rw [hb1] at h; cases h
      have hsh : ∀ x ∈ l, x.f1.length ≤ 16 := fun x hx => by
        rcases Nat.lt_or_ge 16 x.f1.length with h | h
        · rw [anyBig_iff.2 ⟨x, hx, h⟩] at hb1; cases hb1
        · exact h
      have hll : l.length ≤ 32 := by omega
      have HNB := hid (And.intro hnb hsh)
      clear hbig hnb hsh hb1 hb0
      go_enter Try.func8, Try.ntmps8
      go_wp2_with fail
      refine hcf.mono ?_
      rintro e w1 ⟨rfl, b1⟩
      clear hcf
      go_upto_block 0 with (fail)
      go_cut [] (fun wc => (∀ x ∈ l, ∀ s ∈ x.f0 :: x.f1, rightE s = 0) ∧ Below w.heap.size w wc)
      case first =>
        go_wp2_with fail
        go_loopw [20] (fun i wr => ∃ k : Nat, k ≤ l.length ∧ i = .int .i64 k ∧ (∀ x ∈ l.take k, ∀ s ∈ x.f0 :: x.f1, rightE s = 0) ∧ Below w.heap.size w wr) (fun i _ => l.length - (intOf i).toNat)
        case atStart => exact ⟨0, Nat.zero_le _, rfl, fun x hx => (by cases hx), b1⟩
        case round =>
          clear b1
          obtain ⟨W, hW⟩ : ∃ W : World, W = wr := ⟨_, rfl⟩
          subst hW
          obtain ⟨k, hk, rfl, hno, hB⟩ := hrel
          by_cases hlt : k < l.length
          · have hltI : (k : Int) < (l.length : Int) := by omega
            obtain ⟨ad, A1, c1, rfl, hc, hl1, hC1⟩ := node_at HC.out.1 hlt
            have hcw : ∀ j v, ([.string (l[k]).f0, .slice A1 (l[k]).f1.length c1] : List Value)[j]? = some v → W.cell? ((ad.add (k * 2)).add j) = some v := fun j v hj => pw_cell_below hB (hc j v hj)
            have htk : l.take (k + 1) = l.take k ++ [l[k]] := List.take_succ_eq_append_getElem hlt
            have hmem : l[k] ∈ l := List.getElem_mem hlt
            have hxs := HC.out.2 _ hmem
            have hx16 := HNB.out.2 _ hmem
            have hC1W := Kd.C_below hC1 hB
            generalize l[k] = x at hcw htk hmem hxs hx16 hl1 hC1W
            have HX := hid (And.intro hno (And.intro hB (And.intro htk (And.intro hxs (And.intro hC1W hmem)))))
            have HCW := hid hcw
            clear hno hB htk hcw hc hC1 hC1W hxs hmem
            go_upto_region 6 with (first | (refine wpList_load_addr rfl 47 (.tmp 22) rfl (ad.add (k * 2)) rfl [.string x.f0, .slice A1 x.f1.length c1] _ HCW.out Try.underlying47 rfl (by kernel_rfl) ?_) | fail)
            have hx0 := heap_alloc_new W (.cells #[.string x.f0, .slice A1 x.f1.length c1] 47)
            have ba := below_alloc (Below.refl W.heap.size W) (.cells #[.string x.f0, .slice A1 x.f1.length c1] 47)
            have sa : (W.alloc (.cells #[.string x.f0, .slice A1 x.f1.length c1] 47)).heap.size = W.heap.size + 1 := World.size_alloc _ _
            generalize W.alloc (.cells #[.string x.f0, .slice A1 x.f1.length c1] 47) = W2 at hx0 ba sa ⊢
            have HSA := hid sa
            clear sa
            have q0 := cell_of_row _ _ 0 _ _ _ hx0
            have q1 := cell_of_row _ _ 1 _ _ _ hx0
            simp at q0 q1
            have b23 := below_alloc (Below.refl W2.heap.size W2) (.cells #[.string x.f0] 9)
            have hR1 := Kd.R_mono (Kd.R_lower (R_one W2 x.f0) (base' := W.heap.size) (by have := HSA.out; omega)) (fun q hq => hq)
            have hC3 := Kd.C_below (Kd.C_below HX.out.2.2.2.2.1 ba) b23
            have q2 := pw_cell_below b23 q1
            have hB3 := (ba.trans (b23.mono ba.size))
            clear hx0
            go_wp2_with (at_builtin; refine Kd.R_append_rows KS (w0 := W) W.heap.size rfl (.tmp 26) (.tmp 28) 30 9 (.string ⟨#[]⟩) 16 rfl Try.underlying30 info_str rfl (by decide) (by decide) _ [x.f0] x.f1 A1 x.f1.length c1 (fun q => W2.heap.size ≤ q) (fun _ => False) rfl rfl hR1 ?HR (fun _ _ h => h) (fun _ h => h.elim) ?hf ?HB ?hb ?hl ?_)
            case HR => exact hC3
            case hf => exact fun q hq => by rw [World.size_alloc] at hq; omega
            case HB => exact hB3
            case hb => rw [World.size_alloc]; have := HSA.out; omega
            case hl => simp; omega
            intro v4 w4 hR4 _ hg4 _
            have hB4 : Below W.heap.size W w4 := hB3.grown hg4 (by rw [World.size_alloc]; have := HSA.out; omega) (fun q hq => by
              have := hR1.1 q hq
              have := HSA.out
              omega)
            have hl17 : (x.f0 :: x.f1).length ≤ 17 := by simp; omega
            have hxy : ∀ y ∈ x.f0 :: x.f1, y.size ≤ 9223372036854775807 := fun y hy => by
              rcases List.mem_cons.1 hy with rfl | hy
              · exact HX.out.2.2.2.1.1
              · exact HX.out.2.2.2.1.2.2 y hy
            have hin : ∀ y, y ∈ x.f0 :: x.f1 ↔ y ∈ x.f0 :: x.f1 := fun y => Iff.rfl
            have hR4 : KS.R 9 w4 W.heap.size (fun q => W2.heap.size ≤ q) v4 (x.f0 :: x.f1) := hR4
            have hin2 : ∀ xs, xs = x.f0 :: x.f1 → ∀ y, y ∈ x.f0 :: x.f1 ↔ y ∈ xs := fun xs e y => by rw [e]
            generalize hxs : x.f0 :: x.f1 = xs at hR4 hl17 hxy
            have hin := hin2 xs hxs.symm
            clear hin2 hxs
            obtain ⟨A4, c4, rfl⟩ := Kd.R_slice hR4
            have hC4 := (Kd.R_reads' hR4).2.2
            have HY := hid (And.intro hC4 (And.intro hxy (And.intro hin hB4)))
            clear hR1 hC3 q0 q1 q2 hB3 b23 ba hR4 hg4 hC4 hxy hin hB4 HSA
            go_wp2_with fail
            go_loopw [31] (fun i wr2 => ∃ j : Nat, j ≤ xs.length ∧ i = .int .i64 j ∧ (∀ s ∈ xs.take j, rightE s = 0) ∧ Below w4.heap.size w4 wr2) (fun i _ => xs.length - (intOf i).toNat)
            case atStart => exact ⟨0, Nat.zero_le _, rfl, fun y hy => (by cases hy), Below.refl _ _⟩
            case round =>
              obtain ⟨j, hj, rfl, hnr, hBi⟩ := hrel
              have hB4 := HY.out.2.2.2
              have hBW := HX.out.2.1
              by_cases hlt2 : j < xs.length
              · have hltJ : (j : Int) < (xs.length : Int) := by omega
                cases A4 with
                | none =>
                  have := KS_none HY.out.1
                  subst this
                  simp at hlt2
                | some ad2 =>
                have hcell2 := pw_cell_below hBi (KS_at HY.out.1 hlt2)
                have hys := HY.out.2.1 xs[j] (List.getElem_mem hlt2)
                have hym := (HY.out.2.2.1 xs[j]).2 (List.getElem_mem hlt2)
                have htk2 : xs.take (j + 1) = xs.take j ++ [xs[j]] := List.take_succ_eq_append_getElem hlt2
                have hri := fun W' => right_any (w := W') xs[j] hys
                generalize xs[j] = y at hcell2 hym htk2 hri
                have HZ := hid (And.intro hnr (And.intro htk2 hBi))
                have HRI := hid hri
                clear hnr htk2 hBi hri hys hB4 hBW
                go_wp2_with fail
                refine (HRI.out _).mono ?_
                rintro e w6 ⟨rfl, b6⟩
                have hBi6 := below_step HZ.out.2.2 b6
                by_cases hr : rightE y = 0
                · rw [hr]
                  have HF := hid hBi6
                  clear hBi6 b6
                  go_wp2
                  go_roundw
                  case rel =>
                    refine ⟨j + 1, by omega, by go_num, fun z hz => ?_, HF.out⟩
                    rw [HZ.out.2.1] at hz
                    rcases List.mem_append.1 hz with hz | hz
                    · exact HZ.out.1 z hz
                    · have : z = y := by simpa using hz
                      subst this
                      exact hr
                  case measure => simp [intOf]; omega
                · have hE : newE (l.map nd) = 12 := by
                    unfold newE
                    rw [if_neg HNB.out.1, if_pos ⟨nd x, List.mem_map.2 ⟨x, HX.out.2.2.2.2.2, rfl⟩, y, hym, hr⟩]
                  have HF := hid (And.intro hE (below_step (below_step HX.out.2.1 HY.out.2.2.2) hBi6))
                  have hrb : (rightE y == 0) = false := by simpa using hr
                  clear hBi6 b6 hE
                  go_wp2
                  go_ret2
                  exact ⟨_, by rw [HF.out.1]; rfl, fun _ => rfl, fun h => (by rw [HF.out.1] at h; cases h), HF.out.2⟩
              · have hltJ : ¬ (j : Int) < (xs.length : Int) := by omega
                obtain rfl : xs.length = j := by omega
                rw [List.take_length] at hnr
                have hnx : ∀ z ∈ l.take (k + 1), ∀ s ∈ z.f0 :: z.f1, rightE s = 0 := fun z hz s hs => by
                  rw [HX.out.2.2.1] at hz
                  rcases List.mem_append.1 hz with hz | hz
                  · exact HX.out.1 z hz s hs
                  · have : z = x := by simpa using hz
                    subst this
                    exact hnr s ((HY.out.2.2.1 s).1 hs)
                have HF := hid (And.intro hnx (below_step (below_step hBW hB4) hBi))
                clear hnr hBi hnx hB4 hBW
                go_wp2
                go_roundw
                case rel => exact ⟨k + 1, by omega, by go_num, HF.out.1, HF.out.2⟩
                case measure => simp [intOf]; omega
          · have hltI : ¬ (k : Int) < (l.length : Int) := by omega
            obtain rfl : l.length = k := by omega
            rw [List.take_length] at hno
            have HF := hid (And.intro hno hB)
            clear hno hB
            go_wp2_with fail
            go_meet
            case rel => exact HF.out
      case rest =>
        obtain ⟨hall, hB⟩ := hcut
        clear b1
        have hmm := fun W => run_makeMap (P := Try.prog) (w := W) (t := 55)
        have hm0 := below_alloc (Below.refl wc.heap.size wc) (.map #[] 0)
        have hMV := MapV.made Try.prog 9 wc
        have hsm : (wc.alloc (.map #[] 0)).heap.size = wc.heap.size + 1 := World.size_alloc _ _
        have hp0 := heap_alloc_new (wc.alloc (.map #[] 0)) (.cells #[.map (some wc.heap.size)] 57)
        rw [hsm] at hp0
        have hMk : Making (((l.take 0).map nd) : PG) wc.heap.size (wc.heap.size + 1) ((wc.alloc (.map #[] 0)).alloc (.cells #[.map (some wc.heap.size)] 57)) :=
          ⟨hp0, _, hMV.below (below_alloc (Below.refl _ _) _), fun s => by simp [gNames], fun s v hv => by cases hv⟩
        have hbp := below_step hm0 (below_alloc (Below.refl (wc.alloc (.map #[] 0)).heap.size (wc.alloc (.map #[] 0))) (.cells #[.map (some wc.heap.size)] 57))
        have HSM := hid hsm
        clear hp0 hMV hm0 hsm
        go_upto_region 14 with (fail)
        generalize (wc.alloc (.map #[] 0)).alloc (.cells #[.map (some wc.heap.size)] 57) = wg at hMk hbp ⊢
        have HALL := hid (And.intro hall hB)
        clear hall hB hmm HSM
        go_wp2_with fail
        go_loopw [45] (fun i wr => ∃ k : Nat, k ≤ l.length ∧ i = .int .i64 k ∧ Making ((l.take k).map nd) wc.heap.size (wc.heap.size + 1) wr ∧ (gNames ((l.take k).map nd)).Nodup ∧ Below wc.heap.size wc wr) (fun i _ => l.length - (intOf i).toNat)
        case atStart => exact ⟨0, Nat.zero_le _, rfl, hMk, List.nodup_nil, hbp⟩
        case round =>
          clear hMk hbp
          obtain ⟨W, hW⟩ : ∃ W : World, W = wr := ⟨_, rfl⟩
          subst hW
          obtain ⟨k, hk, rfl, hMk, hnd, hBc⟩ := hrel
          by_cases hlt : k < l.length
          · have hltI : (k : Int) < (l.length : Int) := by omega
            have hBW := below_step HALL.out.2 hBc
            obtain ⟨ad, A1, c1, rfl, hc, hl1, hC1⟩ := node_at HC.out.1 hlt
            have hcw : ∀ j v, ([.string (l[k]).f0, .slice A1 (l[k]).f1.length c1] : List Value)[j]? = some v → W.cell? ((ad.add (k * 2)).add j) = some v := fun j v hj => pw_cell_below hBW (hc j v hj)
            have htk : l.take (k + 1) = l.take k ++ [l[k]] := List.take_succ_eq_append_getElem hlt
            have hmem : l[k] ∈ l := List.getElem_mem hlt
            have hx16 := HNB.out.2 _ hmem
            have hxr := HALL.out.1 _ hmem
            have hC1W := Kd.C_below hC1 hBW
            have hlp : ((l.take k).map nd).length ≤ 32 := by rw [List.length_map, List.length_take]; omega
            have hp16 : ∀ n ∈ (l.take k).map nd, n.2.length ≤ 16 := fun n hn => by
              obtain ⟨y, hy, rfl⟩ := List.mem_map.1 hn
              exact HNB.out.2 y (List.mem_of_mem_take hy)
            have hp32 : ∀ n ∈ (l.take k).map nd, ∀ s ∈ n.1 :: n.2, s.size ≤ 32 := fun n hn s hs => by
              obtain ⟨y, hy, rfl⟩ := List.mem_map.1 hn
              exact rightE_small (HALL.out.1 y (List.mem_of_mem_take hy) s hs)
            have htw : l[k].f0 ∈ gNames ((l.take k).map nd) → newE (l.map nd) = 20 := fun h => by
              unfold newE
              rw [if_neg HNB.out.1, if_neg, if_pos]
              · intro hnn
                rw [nd_names] at h hnn
                obtain ⟨y, hy, he⟩ := List.mem_map.1 h
                obtain ⟨i, hi, rfl⟩ := List.mem_iff_getElem.1 hy
                rw [List.length_take] at hi
                rw [List.getElem_take] at he
                have := (List.pairwise_iff_getElem.1 hnn) i k (by rw [List.length_map]; omega) (by rw [List.length_map]; exact hlt) (by omega)
                simp at this
                exact this he
              · rintro ⟨n, hn, s, hs, hr⟩
                obtain ⟨y, hy, rfl⟩ := List.mem_map.1 hn
                exact hr (HALL.out.1 y hy s hs)
            have hpre : (l.take (k + 1)).map nd = (l.take k).map nd ++ [nd l[k]] := by rw [htk, List.map_append]; rfl
            generalize (l.take k).map nd = pre at hMk hnd hlp hp16 hp32 htw hpre
            generalize hp2 : (l.take (k + 1)).map nd = pre2 at hpre
            have HP2 := hid hp2
            clear hp2
            generalize l[k] = x at hcw hmem hx16 hxr hC1W htw hpre hl1
            have hx32 : x.f0.size ≤ 32 := rightE_small (hxr _ (.head _))
            have hx0 := heap_alloc_new W (.cells #[.string x.f0, .slice A1 x.f1.length c1] 47)
            have ba := below_alloc (Below.refl W.heap.size W) (.cells #[.string x.f0, .slice A1 x.f1.length c1] 47)
            have HCW := hid hcw
            clear htk hcw hc hC1 hmem hxr
            go_upto_region 17 with (first | (refine wpList_load_addr rfl 47 (.tmp 47) rfl (ad.add (k * 2)) rfl [.string x.f0, .slice A1 x.f1.length c1] _ HCW.out Try.underlying47 rfl (by kernel_rfl) ?_) | fail)
            have hbc2 : Below wc.heap.size wc (W.alloc (.cells #[.string x.f0, .slice A1 x.f1.length c1] 47)) := hBc.trans (ba.mono hBc.size)
            generalize W.alloc (.cells #[.string x.f0, .slice A1 x.f1.length c1] 47) = W2 at hx0 ba hbc2 ⊢
            have q0 := cell_of_row _ _ 0 _ _ _ hx0
            have q1 := cell_of_row _ _ 1 _ _ _ hx0
            simp at q0 q1
            have hMk2 := hMk.below ba
            have hgm := hMk2.mem hlp hp16 hp32
            have hha := has_any (.inr ⟨_, rfl, hgm⟩) (s := x.f0) (by omega)
            have hcP : W2.cell? ⟨wc.heap.size + 1, 0, none⟩ = some (.map (some wc.heap.size)) := by have := cell_of_row _ _ 0 _ _ _ hMk2.1; simpa using this
            have hC2 := Kd.C_below hC1W ba
            have HY := hid (And.intro hMk2 (And.intro hbc2 (And.intro hnd (And.intro hpre (And.intro htw (And.intro hlp hx32))))))
            clear hMk hMk2 hgm hbc2 hnd hpre htw hBc hBW ba hx0 hC1W
            generalize hnb : W.heap.size = nb at q0 q1 ⊢
            clear hnb
            cases hp : has (gNames (newG pre)) x.f0 with
            | true =>
              rw [hp] at hha
              have hE := HY.out.2.2.2.2.1 (newG_mem_names.1 (has_iff.1 hp))
              have HF := hid (And.intro hE (below_step HALL.out.2 HY.out.2.1))
              clear hE hC2
              go_wp2_with fail
              refine hha.mono ?_
              rintro e w5 ⟨rfl, rfl⟩
              clear hha
              go_wp2
              go_ret2
              exact ⟨_, by rw [HF.out.1]; rfl, fun _ => rfl, fun h => (by rw [HF.out.1] at h; cases h), HF.out.2⟩
            | false =>
              rw [hp] at hha
              have hnin : x.f0 ∉ gNames pre := fun h => by rw [has_true (newG_mem_names.2 h)] at hp; cases hp
              have hst := Set_any (c := c1) hC2 (by omega)
              have HN := hid hnin
              clear hp hnin
              go_wp2_with fail
              refine hha.mono ?_
              rintro e w5 ⟨rfl, rfl⟩
              clear hha
              go_wp2_with fail
              refine wp_region_plan [9] (.take 0 (.take 1 (.take 2 (.take 3 (.take 4 (.take 5 (.take 6 (.take 7 (.run 8 (.tail 9 .done)))))))))) (fun W' => Below W2.heap.size W2 W') (by kernel_rfl) (by kernel_rfl) (fun c a d v w h => by cases d <;> exact h) (below_drew (Below.refl _ _)) ?_
              iterate 8 (apply plan_take rfl rfl; (case hy => (intro w' hS; have p0 := pw_cell_below hS q0; have p1 := pw_cell_below hS q1; have pP := pw_cell_below hS hcP; clear hS; go_simp; try exact rfl)); go_simp)
              refine plan_run_on rfl rfl (fun K hK => ?_)
              go_simp
              have hst := Set_any (w := W2.drew) (c := c1) hC2 (by omega)
              refine hst.mono ?_
              rintro e w6 ⟨A6, c6, rfl, hR6, b6⟩
              have b26 : Below W2.heap.size W2 w6 := below_step (below_drew (Below.refl W2.heap.size W2)) b6
              refine hK _ _ _ (fun _ h => h) b26 ?_
              clear hK K hst
              go_simp
              have hMk6 := HY.out.1.below b26
              have hlp2 := HY.out.2.2.2.2.2.1
              obtain ⟨w7, hrun, hMk7, hg7⟩ := hMk6.put (n := nd x) HN.out (by have : (nd x).1.size = x.f0.size := rfl; unfold maxLen; omega) (by unfold maxLen; omega) (Kd.R_reads' hR6).2.1 (Kd.R_reads' hR6).2.2
              have hrun2 : (Instr.mapUpdate 55 (.map (some wc.heap.size)) (.string x.f0) (.slice A6 (setS x.f1).length c6)).run Try.prog w6 = .ok () w7 := hrun
              have hB6 : Below wc.heap.size wc w6 := HY.out.2.1.trans (b26.mono HY.out.2.1.size)
              have hB7 : Below wc.heap.size wc w7 := hB6.grown hg7 hB6.size (fun q hq => by injection hq with hq; omega)
              rw [← HY.out.2.2.2.1] at hMk7
              have hnd7 : (gNames pre2).Nodup := by
                rw [HY.out.2.2.2.1, gNames_snoc, List.nodup_append]
                refine ⟨HY.out.2.2.1, by simp, fun a ha b hb => ?_⟩
                have hb2 : b = (nd x).1 := by simpa using hb
                rintro rfl
                exact HN.out (by rw [hb2] at ha; exact ha)
              have HF := hid (And.intro hMk7 (And.intro hnd7 hB7))
              clear hrun hMk7 hnd7 hB7 hB6 hMk6 b26 hR6 hg7
              refine plan_tail_on rfl rfl (fun K hK => ?_)
              go_simp
              refine hK _ _ (plan_done ?_)
              clear hK K hrun2 b6 hcP q0 q1
              go_wp2
              go_roundw
              case rel => exact ⟨k + 1, by omega, by go_num, by rw [HP2.out]; exact HF.out.1, by rw [HP2.out]; exact HF.out.2.1, HF.out.2.2⟩
              case measure => simp [intOf]; omega
          · have hltI : ¬ (k : Int) < (l.length : Int) := by omega
            obtain rfl : l.length = k := by omega
            rw [List.take_length] at hMk hnd
            have hE : newE (l.map nd) = 0 := by
              unfold newE
              rw [if_neg HNB.out.1, if_neg, if_neg (fun h => h hnd)]
              rintro ⟨n, hn, s, hs, hr⟩
              obtain ⟨y, hy, rfl⟩ := List.mem_map.1 hn
              exact hr (HALL.out.1 y hy s hs)
            have hgm := hMk.mem (by rw [List.length_map]; exact hll) (fun n hn => by
              obtain ⟨y, hy, rfl⟩ := List.mem_map.1 hn
              exact HNB.out.2 y hy) (fun n hn s hs => by
              obtain ⟨y, hy, rfl⟩ := List.mem_map.1 hn
              exact rightE_small (HALL.out.1 y hy s hs))
            have HF := hid (And.intro hE (And.intro hgm (below_step HALL.out.2 hBc)))
            clear hMk hnd hE hgm hBc
            go_wp2
            go_ret2
            exact ⟨_, by rw [HF.out.1]; rfl, fun h => absurd HF.out.1 h, fun _ => ⟨_, rfl, HF.out.2.1⟩, HF.out.2.2⟩
end Go.Proofs.Ytcjdpccbkfnnlaa

set_option linter.unusedVariables false
set_option linter.unusedSimpArgs false
namespace Go.Proofs.Ytcjdpccbkfnnlaa

def sA : ByteArray := ⟨#[97]⟩
def sB : ByteArray := ⟨#[98]⟩
def sC : ByteArray := ⟨#[99]⟩
def exL : PG := [(sA, [sB, sC]), (sB, [sC]), (sC, [])]
def exG : PG := newG exL
theorem sorted_AB : Sorted [sA, sB] := by unfold Sorted; decide
theorem sorted_BC : Sorted [sB, sC] := by unfold Sorted; decide
theorem sorted_ABC : Sorted [sA, sB, sC] := by unfold Sorted; decide
theorem sorted_C : Sorted [sC] := by unfold Sorted; decide
theorem ne_AB : sA ≠ sB := by decide
theorem ne_AC : sA ≠ sC := by decide
theorem ne_BC : sB ≠ sC := by decide
theorem exL_names : gNames exL = [sA, sB, sC] := rfl
theorem exG_names : gNames exG = [sA, sB, sC] := by unfold exG; rw [newG_names, exL_names]; exact sorted_ABC.set
theorem exG_A : gImp exG sA = [sB, sC] := by
  unfold exG
  rw [newG_imp, show gImp exL sA = [sB, sC] from by unfold gImp exL; simp]
  exact sorted_BC.set
theorem exG_B : gImp exG sB = [sC] := by
  unfold exG
  rw [newG_imp, show gImp exL sB = [sC] from by unfold gImp exL; simp [ne_AB]]
  exact sorted_C.set
theorem exG_C : gImp exG sC = [] := by
  unfold exG
  rw [newG_imp, show gImp exL sC = [] from by unfold gImp exL; simp [ne_AC, ne_BC]]
  exact setS_nil'
theorem exG_imp {x y : ByteArray} (h : y ∈ gImp exG x) : (x = sA ∧ (y = sB ∨ y = sC)) ∨ (x = sB ∧ y = sC) := by
  have hn := gImp_node h
  rw [exG_names] at hn
  simp only [List.mem_cons, List.not_mem_nil, or_false] at hn
  rcases hn with rfl | rfl | rfl
  · rw [exG_A] at h
    simp at h
    exact .inl ⟨rfl, h⟩
  · rw [exG_B] at h
    simp at h
    exact .inr ⟨rfl, h⟩
  · rw [exG_C] at h
    cases h
theorem exG_ok : GOK exG := newG_GOK (by decide) (by intro n hn; simp [exL] at hn; rcases hn with rfl | rfl | rfl <;> simp)
theorem exG_nomiss : ¬ Missing exG := by
  rintro ⟨n, y, h, hn⟩
  rw [exG_names] at hn
  rcases exG_imp h with ⟨_, rfl | rfl⟩ | ⟨_, rfl⟩ <;> simp at hn
theorem exG_users : gUsers exG sC = [sA, sB] := by
  refine (exG_ok.users_sorted _).eq sorted_AB (fun x => ?_)
  rw [gUsers_mem]
  constructor
  · intro h
    rcases exG_imp h with ⟨rfl, _⟩ | ⟨rfl, _⟩ <;> simp
  · intro h
    simp at h
    rcases h with rfl | rfl
    · rw [exG_A]; simp
    · rw [exG_B]; simp
theorem exG_reach {x z : ByteArray} (h : GReach exG x z) : (x = sA ∧ (z = sB ∨ z = sC)) ∨ (x = sB ∧ z = sC) := by
  obtain ⟨k, h⟩ := h
  induction h with
  | one h0 => exact exG_imp h0
  | cons h0 _ ih =>
    rcases exG_imp h0 with ⟨rfl, rfl | rfl⟩ | ⟨rfl, rfl⟩ <;> rcases ih with ⟨h1, h2⟩ | ⟨h1, h2⟩
    · exact absurd h1 (by decide)
    · exact .inl ⟨rfl, .inr h2⟩
    · exact absurd h1 (by decide)
    · exact absurd h1 (by decide)
    · exact absurd h1 (by decide)
    · exact absurd h1 (by decide)
theorem exG_under {u : List ByteArray} (h : UnderS exG sA u) : u = [sB, sC] := by
  refine h.1.eq sorted_BC (fun z => ?_)
  rw [h.2]
  constructor
  · intro hz
    rcases exG_reach hz with ⟨_, rfl | rfl⟩ | ⟨h1, _⟩
    · simp
    · simp
    · exact absurd h1 (by decide)
  · intro hz
    simp at hz
    rcases hz with rfl | rfl
    · exact .step (by rw [exG_A]; simp)
    · exact .step (by rw [exG_A]; simp)
theorem exG_over {u : List ByteArray} (h : OverS exG [sB] u) : u = [sA, sB] := by
  refine h.1.eq sorted_AB (fun z => ?_)
  rw [h.2, exG_names]
  constructor
  · rintro ⟨_, y, hy, hzy⟩
    have : y = sB := by simpa using hy
    subst this
    rcases hzy with rfl | hzy
    · simp
    · rcases exG_reach hzy with ⟨rfl, _⟩ | ⟨_, h1⟩
      · simp
      · exact absurd h1 (by decide)
  · intro hz
    simp at hz
    rcases hz with rfl | rfl
    · exact ⟨by simp, sB, by simp, .inr (.step (by rw [exG_A]; simp))⟩
    · exact ⟨by simp, sB, by simp, .inl rfl⟩
theorem exG_ord : OrdTo exG [sC, sB, sA] := by
  have p1 : PickS exG [] sC 2 := ⟨by rw [exG_names]; rfl, ⟨by simp, fun y hy => by rw [exG_C] at hy; cases hy⟩, fun j x hj hx => by
    rw [exG_names] at hx
    have : j = 0 ∨ j = 1 := by omega
    rcases this with rfl | rfl
    · simp at hx
      subst hx
      exact fun h => by have := h.2 sB (by rw [exG_A]; simp); cases this
    · simp at hx
      subst hx
      exact fun h => by have := h.2 sC (by rw [exG_B]; simp); cases this⟩
  have p2 : PickS exG [sC] sB 1 := ⟨by rw [exG_names]; rfl, ⟨by simp; decide, fun y hy => by rw [exG_B] at hy; exact hy⟩, fun j x hj hx => by
    rw [exG_names] at hx
    obtain rfl : j = 0 := by omega
    simp at hx
    subst hx
    exact fun h => by
      have h1 := h.2 sB (by rw [exG_A]; simp)
      simp at h1
      exact absurd h1 (by decide)⟩
  have p3 : PickS exG [sC, sB] sA 0 := ⟨by rw [exG_names]; rfl, ⟨by simp; decide, fun y hy => by
    rw [exG_A] at hy
    simp at hy ⊢
    rcases hy with rfl | rfl
    · exact .inr rfl
    · exact .inl rfl⟩, fun j x hj _ => by omega⟩
  exact ((OrdTo.nil.snoc p1).snoc p2).snoc p3
theorem exG_order {o : List ByteArray} {E : Int} (h : (Missing exG ∧ o = [] ∧ E = 31) ∨ (¬ Missing exG ∧ ((E = 0 ∧ OrdS exG (some o)) ∨ (E = 32 ∧ o = [] ∧ OrdS exG none)))) : o = [sC, sB, sA] ∧ E = 0 := by
  have hs : OrdS exG (some [sC, sB, sA]) := ⟨exG_ord, by rw [exG_names]; rfl⟩
  rcases h with ⟨h, _⟩ | ⟨_, ⟨hE, h⟩ | ⟨_, _, h⟩⟩
  · exact absurd h exG_nomiss
  · have := h.eq hs
    injection this with this
    exact ⟨this, hE⟩
  · have := h.eq hs
    cases this
theorem exG_levels : (lvRun exG [sC, sB, sA]).2.length = 3 := by
  have h := lvRun_ok exG_ord
  have h3 := lvRun_len exG [sC, sB, sA] 3
  rw [show ([sC, sB, sA] : List ByteArray).take 3 = [sC, sB, sA] from rfl] at h3
  generalize lvRun exG [sC, sB, sA] = st at h h3
  have e1 := h.lv sC (by simp)
  have e2 := h.lv sB (by simp)
  have e3 := h.lv sA (by simp)
  rw [exG_C] at e1
  rw [exG_B] at e2
  rw [exG_A] at e3
  have l3 := h.lt sA (by simp)
  have m1 : lvOf st.1 sC = 0 := e1
  have m2 : lvOf st.1 sB = lvOf st.1 sC + 1 := by rw [e2]; simp [mx]
  have m3 : lvOf st.1 sB + 1 ≤ lvOf st.1 sA := by rw [e3]; exact (mx_le (m := mx (lvOf st.1) [sB, sC])).1 (Nat.le_refl _) sB (by simp)
  omega
end Go.Proofs.Ytcjdpccbkfnnlaa

set_option linter.unusedVariables false
set_option linter.unusedSimpArgs false
namespace Go.Proofs.Ytcjdpccbkfnnlaa
open Go.RowKit Go.Sort Go.Proofs.YtcjdpccbkfnnlaaW.PrintWords Go.Proofs.Ytcjdpccbkfnnlaa.KCarveGA

theorem KS_lit (w : World) (l : List ByteArray) (hl : l.length ≤ 1000) : KS.C (w.alloc (.cells (l.map Value.string).toArray 9)) (some ⟨w.heap.size, 0, none⟩) l.length l := by
  have h := World.ownsRow_lit (base := w.heap.size) (e := 9) (size := 1) w (l.map Value.string).toArray l.length (Nat.le_refl _) (by unfold maxLen; omega) (by simp)
  have hR : KS.R 9 (w.alloc (.cells (l.map Value.string).toArray 9)) w.heap.size (fun _ => True) (.slice (some ⟨w.heap.size, 0, none⟩) l.length l.length) l := Kd.R_of_own (by unfold encs; simpa using h) (fun _ _ => trivial)
  exact (Kd.R_reads' hR).2.2
theorem newE_ex : newE exL = 0 := by
  have hr : ∀ n ∈ exL, ∀ s ∈ n.1 :: n.2, rightE s = 0 := by
    have hA : rightE sA = 0 := by
      unfold rightE
      rw [if_neg (by decide), if_neg, if_neg (by decide), if_neg (by decide)]
      rintro ⟨j, hj, h⟩
      have hj1 : sA.size = 1 := rfl
      obtain rfl : j = 0 := by omega
      revert h
      decide
    have hB : rightE sB = 0 := by
      unfold rightE
      rw [if_neg (by decide), if_neg, if_neg (by decide), if_neg (by decide)]
      rintro ⟨j, hj, h⟩
      have hj1 : sB.size = 1 := rfl
      obtain rfl : j = 0 := by omega
      revert h
      decide
    have hC : rightE sC = 0 := by
      unfold rightE
      rw [if_neg (by decide), if_neg, if_neg (by decide), if_neg (by decide)]
      rintro ⟨j, hj, h⟩
      have hj1 : sC.size = 1 := rfl
      obtain rfl : j = 0 := by omega
      revert h
      decide
    intro n hn s hs
    simp [exL] at hn
    rcases hn with rfl | rfl | rfl
    · simp at hs
      rcases hs with rfl | rfl | rfl
      · exact hA
      · exact hB
      · exact hC
    · simp at hs
      rcases hs with rfl | rfl
      · exact hB
      · exact hC
    · simp at hs
      subst hs
      exact hC
  unfold newE
  rw [if_neg, if_neg, if_neg]
  · intro h
    apply h
    rw [exL_names]
    exact sorted_ABC.nodup
  · rintro ⟨n, hn, s, hs, h⟩
    exact h (hr n hn s hs)
  · rintro (h | ⟨n, hn, h⟩)
    · simp [exL] at h
    · simp [exL] at hn
      rcases hn with rfl | rfl | rfl <;> simp at h
def exN : List SN := [⟨sA, [sB, sC]⟩, ⟨sB, [sC]⟩, ⟨sC, []⟩]
theorem exN_C (w : World) : ∀ wa wb, wa = w.alloc (.cells #[.string ⟨#[98]⟩, .string ⟨#[99]⟩] 9) → wb = wa.alloc (.cells #[.string ⟨#[99]⟩] 9) →
    Kd.C KN (wb.alloc (.cells #[.string ⟨#[97]⟩, .slice (some ⟨w.heap.size, 0, none⟩) 2 2, .string ⟨#[98]⟩, .slice (some ⟨wa.heap.size, 0, none⟩) 1 1, .string ⟨#[99]⟩, .slice none 0 0] 47)) (some ⟨wb.heap.size, 0, none⟩) exN.length exN := by
  rintro wa wb rfl rfl
  have h1 := KS_lit w [sB, sC] (by simp)
  have h2 := KS_lit (w.alloc (.cells #[.string ⟨#[98]⟩, .string ⟨#[99]⟩] 9)) [sC] (by simp)
  have b1 := below_alloc (Below.refl (w.alloc (.cells #[.string ⟨#[98]⟩, .string ⟨#[99]⟩] 9)).heap.size (w.alloc (.cells #[.string ⟨#[98]⟩, .string ⟨#[99]⟩] 9))) (.cells #[.string ⟨#[99]⟩] 9)
  generalize hwb : (w.alloc (.cells #[.string ⟨#[98]⟩, .string ⟨#[99]⟩] 9)).alloc (.cells #[.string ⟨#[99]⟩] 9) = wb at b1 ⊢
  have h1b := Kd.C_below h1 b1
  have h2b : KS.C wb (some ⟨(w.alloc (.cells #[.string ⟨#[98]⟩, .string ⟨#[99]⟩] 9)).heap.size, 0, none⟩) [sC].length [sC] := by rw [← hwb]; exact h2
  generalize (w.alloc (.cells #[.string ⟨#[98]⟩, .string ⟨#[99]⟩] 9)).heap.size = na at h2b ⊢
  have hn := heap_alloc_new wb (.cells #[.string ⟨#[97]⟩, .slice (some ⟨w.heap.size, 0, none⟩) 2 2, .string ⟨#[98]⟩, .slice (some ⟨na, 0, none⟩) 1 1, .string ⟨#[99]⟩, .slice none 0 0] 47)
  have b2 := below_alloc (Below.refl wb.heap.size wb) (.cells #[.string ⟨#[97]⟩, .slice (some ⟨w.heap.size, 0, none⟩) 2 2, .string ⟨#[98]⟩, .slice (some ⟨na, 0, none⟩) 1 1, .string ⟨#[99]⟩, .slice none 0 0] 47)
  generalize wb.alloc (.cells #[.string ⟨#[97]⟩, .slice (some ⟨w.heap.size, 0, none⟩) 2 2, .string ⟨#[98]⟩, .slice (some ⟨na, 0, none⟩) 1 1, .string ⟨#[99]⟩, .slice none 0 0] 47) = wc at hn b2 ⊢
  have h1c := Kd.C_below h1b b2
  have h2c := Kd.C_below h2b b2
  refine ⟨rfl, by decide, fun _ => ⟨_, rfl, fun j p hj => ?_⟩⟩
  have hcell : ∀ i u, (#[.string ⟨#[97]⟩, .slice (some ⟨w.heap.size, 0, none⟩) 2 2, .string ⟨#[98]⟩, .slice (some ⟨na, 0, none⟩) 1 1, .string ⟨#[99]⟩, .slice none 0 0] : Array Value)[i]? = some u → wc.cell? ((⟨wb.heap.size, 0, none⟩ : Addr).add i) = some u := fun i u hu => by
    rw [add_plain, cell_of_row _ _ i _ _ _ hn]
    exact hu
  have hj3 : j < 3 := by
    rcases Nat.lt_or_ge j 3 with h | h
    · exact h
    · rw [List.getElem?_eq_none (by simpa [exN] using h)] at hj; cases hj
  have : j = 0 ∨ j = 1 ∨ j = 2 := by omega
  rcases this with rfl | rfl | rfl
  · obtain rfl : p = ⟨sA, [sB, sC]⟩ := by simpa [exN] using hj.symm
    refine ⟨_, rfl, k47_mk wc _ (c1 := 2) (by decide) h1c, fun i u hu => ?_⟩
    refine hcell (0 * 2 + i) u ?_
    rcases i with _ | _ | i
    · simpa [sA] using hu
    · simpa using hu
    · simp at hu
  · obtain rfl : p = ⟨sB, [sC]⟩ := by simpa [exN] using hj.symm
    refine ⟨_, rfl, k47_mk wc _ (c1 := 1) (by decide) h2c, fun i u hu => ?_⟩
    refine hcell (1 * 2 + i) u ?_
    rcases i with _ | _ | i
    · simpa [sB] using hu
    · simpa using hu
    · simp at hu
  · obtain rfl : p = ⟨sC, []⟩ := by simpa [exN] using hj.symm
    refine ⟨_, rfl, k47_mk wc _ (A1 := none) (c1 := 0) (by decide) (KS_C_nil wc), fun i u hu => ?_⟩
    refine hcell (2 * 2 + i) u ?_
    rcases i with _ | _ | i
    · simpa [sC] using hu
    · simpa using hu
    · simp at hu
set_option maxRecDepth 100000 in
set_option maxHeartbeats 4000000 in
theorem alive_any {w : World} : Calls Try.prog 10 #[] w fun e w' => e = .returned (.bool true) ∧ Below w.heap.size w w' := by
  have hN := exN_C w _ _ rfl rfl
  have ba := below_alloc (below_alloc (below_alloc (Below.refl w.heap.size w) (.cells #[.string ⟨#[98]⟩, .string ⟨#[99]⟩] 9)) (.cells #[.string ⟨#[99]⟩] 9)) (.cells #[.string ⟨#[97]⟩, .slice (some ⟨w.heap.size, 0, none⟩) 2 2, .string ⟨#[98]⟩, .slice (some ⟨w.heap.size + 1, 0, none⟩) 1 1, .string ⟨#[99]⟩, .slice none 0 0] 47)
  simp only [World.size_alloc] at hN
  have hnw := new_any (c := 3) hN (fun x hx => by
    simp [exN] at hx
    rcases hx with rfl | rfl | rfl
    · refine ⟨by decide, by decide, fun y hy => ?_⟩
      simp at hy
      rcases hy with rfl | rfl <;> decide
    · refine ⟨by decide, by decide, fun y hy => ?_⟩
      simp at hy
      subst hy
      decide
    · exact ⟨by decide, by decide, fun y hy => by simp at hy⟩)
  clear hN
  go_enter Try.func10, Try.ntmps10
  go_wp2_with fail
  generalize ((w.alloc (.cells #[.string ⟨#[98]⟩, .string ⟨#[99]⟩] 9)).alloc (.cells #[.string ⟨#[99]⟩] 9)).alloc (.cells #[.string ⟨#[97]⟩, .slice (some ⟨w.heap.size, 0, none⟩) 2 2, .string ⟨#[98]⟩, .slice (some ⟨w.heap.size + 1, 0, none⟩) 1 1, .string ⟨#[99]⟩, .slice none 0 0] 47) = w0 at ba hnw ⊢
  refine hnw.mono ?_
  rintro e w1 ⟨v, rfl, _, h0, b1⟩
  have hE : newE (exN.map nd) = 0 := newE_ex
  obtain ⟨p, rfl, hgm⟩ := h0 hE
  rw [hE]
  clear hnw h0 hE
  have hB1 := below_step ba b1
  have hgm : GMem w1 p exG := hgm
  have hor := order_any hgm
  have HG := hid (And.intro hgm hB1)
  clear ba b1 hgm hB1
  go_wp2_with fail
  refine hor.mono ?_
  rintro e w2 ⟨o, E, u, hO, rfl, hu, b2⟩
  obtain ⟨rfl, rfl⟩ := exG_order hO
  clear hO hor
  have hlv := levels_any (HG.out.1.below b2)
  have HG2 := hid (And.intro (HG.out.1.below b2) (And.intro (below_step HG.out.2 b2) hu))
  clear hu b2
  go_wp2_with fail
  refine hlv.mono ?_
  rintro e w3 ⟨o2, E2, ls, A3, c3, hO2, hls, _, rfl, hl3, hC3, b3⟩
  obtain ⟨rfl, rfl⟩ := exG_order hO2
  have hls := hls rfl
  subst hls
  have h3 := exG_levels
  clear hlv hO2 hC3 hl3
  generalize (lvRun exG [sC, sB, sA]).2.length = n3 at h3 ⊢
  subst h3
  obtain ⟨A4, c4, rfl, hl4, hC4⟩ := HG2.out.2.2.below b3
  have hg3 := HG2.out.1.below b3
  have hB3 := below_step HG2.out.2.1 b3
  have hx1 := texts_same (c1 := c4) (c2 := 3) (Kd.C_below hC4 (below_alloc (Below.refl w3.heap.size w3) (.cells #[.string ⟨#[99]⟩, .string ⟨#[98]⟩, .string ⟨#[97]⟩] 9))) hl4 (KS_lit w3 [sC, sB, sA] (by simp)) (by simp) rfl
  have b4 := below_alloc (Below.refl w3.heap.size w3) (.cells #[.string ⟨#[99]⟩, .string ⟨#[98]⟩, .string ⟨#[97]⟩] 9)
  have HG3 := hid (And.intro (hg3.below b4) (below_step hB3 b4))
  clear hC4 b3 hg3 hB3 b4
  go_wp2_with fail
  refine hx1.mono ?_
  rintro e w5 ⟨rfl, b5⟩
  clear hx1
  have hus := users_any (.inr ⟨p, rfl, HG3.out.1.below b5⟩) sC
  have HG5 := hid (And.intro (HG3.out.1.below b5) (below_step HG3.out.2 b5))
  clear b5
  go_wp2_with fail
  refine hus.mono ?_
  rintro e w6 ⟨A6, c6, rfl, hR6, b6⟩
  obtain ⟨_, hl6, hC6⟩ := Kd.R_reads' hR6
  rw [exG_users] at hR6 hl6 hC6 ⊢
  have b7 := below_alloc b6 (.cells #[.string ⟨#[97]⟩, .string ⟨#[98]⟩] 9)
  have hx2 := texts_same (c1 := c6) (c2 := 2) (Kd.C_below hC6 (below_alloc (Below.refl w6.heap.size w6) (.cells #[.string ⟨#[97]⟩, .string ⟨#[98]⟩] 9))) hl6 (KS_lit w6 [sA, sB] (by simp)) (by simp) rfl
  have HG6 := hid (And.intro (HG5.out.1.below b7) (below_step HG5.out.2 b7))
  clear hus hR6 hl6 hC6 b6 b7
  go_wp2_with fail
  refine hx2.mono ?_
  rintro e w8 ⟨rfl, b8⟩
  clear hx2
  have hun := under_any (.inr ⟨p, rfl, HG6.out.1.below b8⟩) (s := sA) (by decide)
  have HG8 := hid (And.intro (HG6.out.1.below b8) (below_step HG6.out.2 b8))
  clear b8
  go_wp2_with fail
  refine hun.mono ?_
  rintro e w9 ⟨u, hu, A9, c9, rfl, hC9, hl9, b9⟩
  obtain rfl := exG_under hu
  have b10 := below_alloc b9 (.cells #[.string ⟨#[98]⟩, .string ⟨#[99]⟩] 9)
  have hx3 := texts_same (c1 := c9) (c2 := 2) (Kd.C_below hC9 (below_alloc (Below.refl w9.heap.size w9) (.cells #[.string ⟨#[98]⟩, .string ⟨#[99]⟩] 9))) hl9 (KS_lit w9 [sB, sC] (by simp)) (by simp) rfl
  have HG9 := hid (And.intro (HG8.out.1.below b10) (below_step HG8.out.2 b10))
  clear hun hu hC9 hl9 b9 b10
  go_wp2_with fail
  refine hx3.mono ?_
  rintro e w11 ⟨rfl, b11⟩
  clear hx3
  have b12 := below_alloc b11 (.cells #[.string ⟨#[98]⟩] 9)
  have hov := over_any (c0 := 1) (.inr ⟨p, rfl, HG9.out.1.below b12⟩) (KS_lit w11 [sB] (by simp)) (by have := exG_ok.few; have h2 : exG.length * exG.length ≤ 32 * 32 := Nat.mul_le_mul this this; simp; have h3 : (1 + exG.length) * exG.length ≤ 33 * 32 := Nat.mul_le_mul (by omega) this; omega)
  have HG11 := hid (And.intro (HG9.out.1.below b12) (below_step HG9.out.2 b12))
  clear b11 b12
  go_wp2_with fail
  refine hov.mono ?_
  rintro e w13 ⟨u, hu, v13, rfl, ⟨A13, c13, rfl, hl13, hC13⟩, b13⟩
  obtain rfl := exG_over hu
  have b14 := below_alloc b13 (.cells #[.string ⟨#[97]⟩, .string ⟨#[98]⟩] 9)
  have hx4 := texts_same (c1 := c13) (c2 := 2) (Kd.C_below hC13 (below_alloc (Below.refl w13.heap.size w13) (.cells #[.string ⟨#[97]⟩, .string ⟨#[98]⟩] 9))) hl13 (KS_lit w13 [sA, sB] (by simp)) (by simp) rfl
  have HG13 := hid (below_step HG11.out.2 b14)
  clear hov hu hC13 hl13 b13 b14
  go_wp2_with fail
  refine hx4.mono ?_
  rintro e w15 ⟨rfl, b15⟩
  have HF := hid (below_step HG13.out b15)
  clear hx4 b15
  go_wp2
  go_ret
  exact ⟨rfl, HF.out⟩
end Go.Proofs.Ytcjdpccbkfnnlaa

set_option linter.unusedVariables false
set_option linter.unusedSimpArgs false
namespace Go.Proofs.Ytcjdpccbkfnnlaa
open Go.RowKit Go.Proofs.YtcjdpccbkfnnlaaW.PrintWords

/-- A value of type t, where it is read, is of kind K and obeys G. -/
structure Opens (P : Program) (t : TypeId) {α : Type} (K : Kd α) (G : α → Prop) : Prop where
  go : ∀ {H : Type} {enc : TypeId × Value → H} {W : World} {base : Nat} {spare : Nat → Bool} {held : Bool} {fuel : Nat} {cs : List Value} {d : DataW H} {ps : List MemPlace},
    DataW.trod enc P W base spare held fuel t cs = some (d, ps) → (∀ n ∈ d.weights P t, n ≤ reachBytes) → ∃ x, K.K W x cs ∧ G x
/-- The same of a struct's fields, from the offset off on. -/
structure OpensF (P : Program) (fs : List Field) (off : Nat) {α : Type} (K : Kd α) (G : α → Prop) : Prop where
  go : ∀ {H : Type} {enc : TypeId × Value → H} {W : World} {base : Nat} {spare : Nat → Bool} {held : Bool} {fuel : Nat} {cs : List Value} {xs : List (DataW H × List MemPlace)},
    cs.length = off + K.sz → xs.length = fs.length → (∀ (i : Nat) (f : Field), fs[i]? = some f → DataW.trod enc P W base spare held fuel f.type ((cs.drop f.offset).take (P.cellsOf f.type)) = xs[i]?) →
    (∀ n ∈ DataW.weightsEach P (fs.map (·.type)) (xs.map (·.1)), n ≤ reachBytes) → ∃ x, K.K W x (cs.drop off) ∧ G x

section
variable {P : Program} {t e : TypeId}

theorem opens_string (ht : P.underlying t = some .string) : Opens P t Kd.string (fun s => s.size ≤ 140737488351232) := by
  constructor
  intro H enc W base spare held fuel cs d ps h hw
  obtain ⟨s, rfl, hx, _⟩ := DataW.trod_string ht h
  obtain ⟨rfl, _⟩ := Prod.mk.inj hx
  refine ⟨s, rfl, ?_⟩
  have := hw s.data.toList.length (by simp [DataW.weights])
  rw [Array.length_toList] at this
  exact this
theorem weightsAll_mem {H : Type} {ds : List (DataW H)} {d : DataW H} (hd : d ∈ ds) {n : Nat} (hn : n ∈ d.weights P e) : n ∈ DataW.weightsAll P e ds := by
  induction ds with
  | nil => simp at hd
  | cons a r ih =>
    simp only [DataW.weightsAll, List.mem_append]
    rcases List.mem_cons.1 hd with rfl | hd
    · exact .inl hn
    · exact .inr (ih hd)
theorem opens_slice {α : Type} {K : Kd α} {G : α → Prop} {B : Nat} (ht : P.underlying t = some (.slice e)) (hc : P.cellsOf e = K.sz) (hB : P.bytesOf e = B) (hO : Opens P e K G) :
    Opens P t (Kd.slice e K) (fun xs => (∀ x ∈ xs, G x) ∧ xs.length * B ≤ 140737488351232) := by
  constructor
  intro H enc W base spare held fuel cs d ps h hw
  rcases Go.Deep.open_slice ht h with ⟨rfl, hx⟩ | ⟨a, len, cap, m, n, D, Pl, rfl, _, hl, hm, hmm, hx, hel⟩
  · exact ⟨[], ⟨none, 0, rfl, Nat.le_refl _, rfl, by simp, fun h => absurd h (by simp)⟩, by simp, by simp⟩
  · obtain ⟨rfl, _⟩ := Prod.mk.inj hx
    have hlm : len ≤ m := by rw [hmm]; split <;> omega
    have one : ∀ i, i < len → ∃ x, (∃ cs', W.cells? base (a.add (i * P.cellsOf e)) (P.cellsOf e) = some cs' ∧ K.K W x cs') ∧ G x := fun i hi => by
      obtain ⟨cs', h1, h2⟩ := hel i (by omega)
      obtain ⟨x, hk, hg⟩ := hO.go h2 (fun n hn => hw n (by
        simp only [DataW.weights, ht]
        exact List.mem_cons_of_mem _ (List.mem_append_left _ (weightsAll_mem (List.mem_map.2 ⟨i, List.mem_range.2 hi, rfl⟩) hn))))
      exact ⟨x, ⟨cs', h1, hk⟩, hg⟩
    rcases Nat.eq_zero_or_pos len with h0 | h0
    · subst h0
      exact ⟨[], ⟨some a, cap, rfl, Nat.zero_le _, rfl, by simp, fun h => absurd h (by simp)⟩, by simp, by simp⟩
    · obtain ⟨x0, _⟩ := one 0 h0
      haveI : Inhabited α := ⟨x0⟩
      obtain ⟨X, hX⟩ := Go.Deep.choose_lt (α := α) (p := fun i x => (∃ cs', W.cells? base (a.add (i * P.cellsOf e)) (P.cellsOf e) = some cs' ∧ K.K W x cs') ∧ G x) one
      have hlen : ((List.range len).map X).length = len := by simp
      refine ⟨(List.range len).map X, ⟨some a, cap, by rw [hlen], by rw [hlen]; exact hl, hlen.symm ▸ rfl, ?_, ?_⟩, ?_, ?_⟩
      · rw [hlen]; exact Nat.le_trans hl (Nat.le_trans hm (by decide))
      · intro _
        refine ⟨a, rfl, fun j p hj => ?_⟩
        have hjl : j < len := by
          have := (List.getElem?_eq_some_iff.1 hj).1
          simpa using this
        have hp : X j = p := by simpa [hjl] using hj
        obtain ⟨⟨cs', h1, hk⟩, _⟩ := hX j hjl
        rw [← hp]
        refine ⟨cs', K.K_len hk, hk, fun i u hu => ?_⟩
        obtain ⟨_, hlen', hcell⟩ := World.cells?_some h1
        have := hcell i (by have := (List.getElem?_eq_some_iff.1 hu).1; omega)
        rw [Go.Deep.add_add, hc] at this
        rw [this, hu]
      · intro x hx
        obtain ⟨i, hi, rfl⟩ := List.mem_map.1 hx
        exact (hX i (List.mem_range.1 hi)).2
      · have := hw ((((List.range len).map D).length + ((List.range (m - len)).map fun j => D (len + j)).length) * P.bytesOf e) (by simp [DataW.weights, ht])
        rw [hB] at this
        simp only [List.length_map, List.length_range] at this ⊢
        exact Nat.le_trans (Nat.mul_le_mul_right _ (by omega)) this
theorem opensF_one {α : Type} {K : Kd α} {G : α → Prop} {f : Field} {off : Nat} (ho : f.offset = off) (hc : P.cellsOf f.type = K.sz) (hO : Opens P f.type K G) : OpensF P [f] off K G := by
  constructor
  intro H enc W base spare held fuel cs xs hcs hxs hf hw
  match xs, hxs with
  | [(d, ps)], _ =>
    have h := hf 0 f rfl
    have e0 : ((cs.drop f.offset).take (P.cellsOf f.type)) = cs.drop off := by
      rw [ho, hc]; exact List.take_of_length_le (by rw [List.length_drop]; omega)
    rw [e0] at h
    exact hO.go h (fun n hn => hw n (by simpa [DataW.weightsEach] using hn))
theorem opensF_cons {α β : Type} {K : Kd α} {L : Kd β} {G : α → Prop} {G' : β → Prop} {f : Field} {fs : List Field} {off : Nat} (ho : f.offset = off) (hc : P.cellsOf f.type = K.sz) (hO : Opens P f.type K G)
    (hF : OpensF P fs (off + K.sz) L G') : OpensF P (f :: fs) off (Kd.pair K L) (fun x => G x.1 ∧ G' x.2) := by
  constructor
  intro H enc W base spare held fuel cs xs hcs hxs hf hw
  match xs, hxs with
  | (d, ps) :: xs, hxs =>
    have hcs' : cs.length = off + (K.sz + L.sz) := hcs
    have h := hf 0 f rfl
    rw [ho, hc] at h
    obtain ⟨x, hk, hg⟩ := hO.go h (fun n hn => hw n (by simp only [List.map_cons, DataW.weightsEach, List.mem_append]; exact .inl hn))
    obtain ⟨y, hl, hg'⟩ := hF.go (cs := cs) (xs := xs) (by omega) (by simpa using hxs) (fun i g hi => by simpa using hf (i + 1) g (by simpa using hi)) (fun n hn => hw n (by simp only [List.map_cons, DataW.weightsEach, List.mem_append]; exact .inr hn))
    refine ⟨(x, y), ⟨(cs.drop off).take K.sz, cs.drop (off + K.sz), ?_, hk, hl⟩, hg, hg'⟩
    rw [← List.drop_drop, List.take_append_drop]
theorem opens_struct {α : Type} {K : Kd α} {G : α → Prop} {fs : Array Field} (ht : P.underlying t = some (.struct fs)) (hc : P.cellsOf t = K.sz) (hF : OpensF P fs.toList 0 K G) : Opens P t K G := by
  constructor
  intro H enc W base spare held fuel cs d ps h hw
  obtain ⟨xs, n, rfl, hx, hcs, hxs, hf⟩ := DataW.trod_struct ht h
  obtain ⟨rfl, _⟩ := Prod.mk.inj hx
  have := hF.go (enc := enc) (W := W) (base := base) (spare := spare) (held := held) (fuel := n) (cs := cs) (xs := xs) (by omega) (by simpa using hxs) (fun i f hi => hf i f (by simpa using hi))
    (fun n hn => hw n (by simpa [DataW.weights, ht] using hn))
  simpa using this
theorem opens_iso {α β : Type} {K : Kd α} {G : α → Prop} (f : β → α) (g : α → β) (hfg : ∀ x, f (g x) = x) (h : Opens P t K G) : Opens P t (Kd.iso K f) (fun x => G (f x)) := by
  constructor
  intro H enc W base spare held fuel cs d ps hd hw
  obtain ⟨x, hk, hx⟩ := h.go hd hw
  refine ⟨g x, ?_, by show G (f (g x)); rw [hfg]; exact hx⟩
  show K.K W (f (g x)) cs
  rw [hfg]; exact hk
theorem Opens.mono {α : Type} {K : Kd α} {G G' : α → Prop} (h : Opens P t K G) (hG : ∀ x, G x → G' x) : Opens P t K G' := ⟨fun hd hw => by
  obtain ⟨x, hk, hx⟩ := h.go hd hw
  exact ⟨x, hk, hG x hx⟩⟩
/-- Down from a row's weights. -/
theorem Opens.arg {α : Type} {K : Kd α} {G : α → Prop} (hO : Opens P t K G) {H : Type} {enc : TypeId × Value → H} {W : World} {base : Nat} {spare : Nat → Bool} {held : Bool} {v : Value} {d : DataW H} {ps : List MemPlace} {ts : List TypeId} {ds : List (DataW H)} {j : Nat}
    (hsz : (DataW.weightsEach P ts ds).all (· ≤ reachBytes) = true) (ht : ts[j]? = some t) (hd : ds[j]? = some d) (h : DataW.Trod enc P W base spare held t v d ps) : ∃ x, K.K W x v.cells.toList ∧ G x := by
  obtain ⟨fuel, hf⟩ := h
  exact hO.go hf (fun n hn => by
    have := List.all_eq_true.1 hsz _ (DataW.weights_mem_each ht hd n hn)
    simpa using this)
/-- .. of a slice. -/
theorem opens_slice_arg {α : Type} {K : Kd α} {G : List α → Prop} (hO : Opens P t (Kd.slice e K) G) {H : Type} {enc : TypeId × Value → H} {W : World} {base : Nat} {spare : Nat → Bool} {held : Bool} {a : Option Addr} {len cap : Nat} {d : DataW H} {ps : List MemPlace} {ts : List TypeId} {ds : List (DataW H)} {j : Nat}
    (hsz : (DataW.weightsEach P ts ds).all (· ≤ reachBytes) = true) (ht : ts[j]? = some t) (hd : ds[j]? = some d) (h : DataW.Trod enc P W base spare held t (.slice a len cap) d ps) : ∃ xs, len = xs.length ∧ len ≤ cap ∧ K.C W a xs.length xs ∧ G xs := by
  obtain ⟨xs, ⟨A, c, hcs, hl, hC⟩, hg⟩ := hO.arg hsz ht hd h
  simp [Value.cells] at hcs
  obtain ⟨rfl, rfl, rfl⟩ := hcs
  exact ⟨xs, rfl, hl, hC, hg⟩
end
end Go.Proofs.Ytcjdpccbkfnnlaa

set_option linter.unusedVariables false
set_option linter.unusedSimpArgs false
namespace Go.Proofs.Ytcjdpccbkfnnlaa
open Go.RowKit Go.Sort Go.Proofs.YtcjdpccbkfnnlaaW.PrintWords Go.Proofs.Ytcjdpccbkfnnlaa.KCarveGA

abbrev SR11 := S45
abbrev KR11 : Kd SR11 := k45
def asN (x : SR11) : SN := ⟨x.f0, x.f1⟩
def nr (x : SR11) : ByteArray × List ByteArray := (x.f0, x.f1)
theorem asN_nd (l : List SR11) : (l.map asN).map nd = l.map nr := by rw [List.map_map]; rfl
/-- What a node among the arguments is. -/
structure NokA (x : SR11) : Prop where
  s : x.f0.size ≤ 140737488351232
  i : ∀ y ∈ x.f1, y.size ≤ 140737488351232
  l : x.f1.length * 16 ≤ 140737488351232
theorem opens_strs : Opens Try.prog 30 (Kd.slice 9 KS) (fun xs => (∀ x ∈ xs, x.size ≤ 140737488351232) ∧ xs.length * 16 ≤ 140737488351232) :=
  opens_slice Try.underlying30 (by kernel_rfl) (by kernel_rfl) (opens_string Try.underlying9)
theorem opens_node : Opens Try.prog 45 KR11 NokA := by
  refine (opens_iso (P := Try.prog) (t := 45) (fun x : SR11 => (x.f0, x.f1)) (fun p => ⟨p.1, p.2⟩) (fun _ => rfl)
    (opens_struct Try.underlying45 (by kernel_rfl) (opensF_cons rfl (by kernel_rfl) (opens_string Try.underlying9) (opensF_one rfl (by kernel_rfl) opens_strs)))).mono ?_
  rintro o ⟨h0, h1, h2⟩
  exact ⟨h0, h1, h2⟩
theorem opens_nodes : Opens Try.prog 22 (Kd.slice 45 KR11) (fun xs => (∀ x ∈ xs, NokA x) ∧ xs.length * 40 ≤ 140737488351232) :=
  opens_slice Try.underlying22 (by kernel_rfl) (by kernel_rfl) opens_node
theorem own_l (l : List SR11) (hl : l.length * 40 ≤ 140737488351232) (hx : ∀ x ∈ l, NokA x) : ∀ (d i k : Nat), l.length - i = d → i ≤ l.length → d < k →
    foundrylaw11_own.l0 k l ((l.take i).map asN) i = some (l.map asN) := by
  intro d
  induction d with
  | zero =>
    intro i k hd hi hk
    obtain ⟨k, rfl⟩ : ∃ m, k = m + 1 := ⟨k - 1, by omega⟩
    simp only [foundrylaw11_own.l0]
    rw [if_neg (by omega), List.take_of_length_le (by omega)]
  | succ d ih =>
    intro i k hd hi hk
    obtain ⟨k, rfl⟩ : ∃ m, k = m + 1 := ⟨k - 1, by omega⟩
    have h1 : i < l.length := by omega
    have hr : rd_T45 l (i : Int) = l[i] := by unfold rd_T45; simp [List.getD_eq_getElem?_getD, h1]
    have hb := (hx l[i] (List.getElem_mem h1)).l
    have hlen : ((l.take i).map asN).length ≤ i := by rw [List.length_map]; exact List.length_take_le _ _
    simp only [foundrylaw11_own.l0, hr, Option.bind_some, List.nil_append, List.length_nil]
    rw [if_pos (by omega), if_pos (by omega), if_pos (by omega), if_pos (by omega), wr_ok (n := l.length) (by omega) (by omega) (by omega)]
    have := ih (i + 1) k (by omega) (by omega) (by omega)
    rw [List.take_succ_eq_append_getElem h1, List.map_append] at this
    exact this
theorem own_any {w : World} {A : Option Addr} {c : Nat} {l : List SR11} (h : Kd.C KR11 w A l.length l) (hc : l.length ≤ c) (hl : l.length * 40 ≤ 140737488351232) (hx : ∀ x ∈ l, NokA x) :
    Calls Try.prog 9 #[.slice A l.length c] w fun e w' => ∃ v, e = .returned v ∧ Kd.S KN 47 w' w.heap.size (fun _ => True) v (l.map asN) ∧ Below w.heap.size w w' :=
  foundrylaw11_own.calls (l.length + 1) A c l (l.map asN) w h hc (own_l l hl hx l.length 0 (l.length + 1) (by omega) (by omega) (by omega))
/-- The program's New of one's own nodes: what both together answer. -/
theorem made_any {w : World} {v : Value} {l : List SR11} {base : Nat} (h : Kd.S KN 47 w base (fun _ => True) v (l.map asN)) (hx : ∀ x ∈ l, NokA x) :
    Calls Try.prog 8 #[v] w fun e w' => NewE (l.map nr) w w' e := by
  obtain ⟨A, c, rfl, hl, hC⟩ := Kd.S_reads h
  have := new_any (c := c) hC (fun x hxm => by
    obtain ⟨y, hy, rfl⟩ := List.mem_map.1 hxm
    have := hx y hy
    exact ⟨by have := this.s; show y.f0.size ≤ _; omega, by have := this.l; show y.f1.length ≤ _; omega, fun z hz => by have := this.i z hz; omega⟩)
  rwa [asN_nd] at this
end Go.Proofs.Ytcjdpccbkfnnlaa

set_option linter.unusedVariables false
set_option linter.unusedSimpArgs false
namespace Go.Proofs.Ytcjdpccbkfnnlaa
open Go.RowKit Go.Sort Go.Proofs.YtcjdpccbkfnnlaaW.PrintWords Go.Proofs.Ytcjdpccbkfnnlaa.KCarveGA

end Go.Proofs.Ytcjdpccbkfnnlaa

set_option linter.unusedVariables false
set_option linter.unusedSimpArgs false
namespace Go.Proofs.Ytcjdpccbkfnnlaa
open Go.RowKit Go.Sort Go.Proofs.YtcjdpccbkfnnlaaW.PrintWords Go.Proofs.Ytcjdpccbkfnnlaa.KCarveGA

theorem newE_zero {l : PG} (h : newE l = 0) : (gNames l).Nodup ∧ l.length ≤ 32 ∧ ∀ n ∈ l, n.2.length ≤ 16 := by
  unfold newE at h
  split at h
  · cases h
  · rename_i h1
    split at h
    · cases h
    · split at h
      · cases h
      · rename_i h3
        refine ⟨Classical.not_not.1 h3, Nat.not_lt.1 (fun q => h1 (.inl q)), fun n hn => Nat.not_lt.1 (fun q => h1 (.inr ⟨n, hn, q⟩))⟩
theorem order_same {G : PG} {a b : List ByteArray} {E F : Int} (h : OrderS G a E) (k : OrderS G b F) : a = b ∧ E = F := by
  rcases h with ⟨h1, h2, h3⟩ | ⟨h1, ⟨h2, h3⟩ | ⟨h2, h3, h4⟩⟩
  · rcases k with ⟨_, k2, k3⟩ | ⟨k1, _⟩
    · exact ⟨by rw [h2, k2], by rw [h3, k3]⟩
    · exact absurd h1 k1
  · rcases k with ⟨k1, _⟩ | ⟨_, ⟨k2, k3⟩ | ⟨k2, k3, k4⟩⟩
    · exact absurd k1 h1
    · have := h3.eq k3
      exact ⟨by injection this, by rw [h2, k2]⟩
    · have := h3.eq k4
      cases this
  · rcases k with ⟨k1, _⟩ | ⟨_, ⟨k2, k3⟩ | ⟨k2, k3, k4⟩⟩
    · exact absurd k1 h1
    · have := h4.eq k3
      cases this
    · exact ⟨by rw [h3, k3], by rw [h2, k2]⟩
/-- A node among the arguments: its two cells. -/
theorem rnode_at {w : World} {A : Option Addr} {l : List SR11} (h : Kd.C KR11 w A l.length l) {k : Nat} (hk : k < l.length) : ∃ ad A1 c1, A = some ad ∧ w.cell? (ad.add (k * 2)) = some (.string (l[k]).f0) ∧ w.cell? ⟨(ad.add (k * 2)).block, (ad.add (k * 2)).off + 1, none⟩ = some (.slice A1 (l[k]).f1.length c1) ∧ (l[k]).f1.length ≤ c1 ∧ KS.C w A1 (l[k]).f1.length (l[k]).f1 := by
  obtain ⟨ad, A1, c1, e, h0, h1, h2, h3⟩ := at_T45 h (k : Int) (by omega) (by omega)
  have hr : rd_T45 l (k : Int) = l[k] := by unfold rd_T45; simp [List.getD_eq_getElem?_getD, hk]
  rw [hr, Int.toNat_natCast] at h0 h1
  rw [hr] at h2 h3
  exact ⟨ad, A1, c1, e, h0, h1, h2, h3⟩
end Go.Proofs.Ytcjdpccbkfnnlaa

set_option linter.unusedVariables false
set_option linter.unusedSimpArgs false
namespace Go.Proofs.Ytcjdpccbkfnnlaa
open Go.RowKit Go.Sort Go.Proofs.YtcjdpccbkfnnlaaW.PrintWords Go.Proofs.Ytcjdpccbkfnnlaa.KCarveGA

/-- Nodes that are alike for New. -/
structure NAlike (x y : ByteArray × List ByteArray) : Prop where
  n : x.1 = y.1
  i : ∀ s, s ∈ x.2 ↔ s ∈ y.2
  l : 16 < x.2.length ↔ 16 < y.2.length
theorem NAlike.refl (x : ByteArray × List ByteArray) : NAlike x x := ⟨rfl, fun _ => Iff.rfl, Iff.rfl⟩
theorem NAlike.symm {x y : ByteArray × List ByteArray} (h : NAlike x y) : NAlike y x := ⟨h.n.symm, fun s => (h.i s).symm, h.l.symm⟩
/-- Nodes in another order. -/
structure Shuf (l m : PG) (σ : Nat → Nat) : Prop where
  len : l.length = m.length
  lt : ∀ j, j < l.length → σ j < l.length
  inv : ∀ j, j < l.length → σ (σ j) = j
  at_ : ∀ j (h : j < l.length) (h2 : σ j < m.length), NAlike l[j] m[σ j]
theorem Shuf.symm {l m : PG} {σ : Nat → Nat} (h : Shuf l m σ) : Shuf m l σ :=
  ⟨h.len.symm, fun j hj => by rw [← h.len] at hj ⊢; exact h.lt j hj, fun j hj => h.inv j (by rw [h.len]; exact hj), fun j hj h2 => by
    have h3 : j < l.length := by rw [h.len]; exact hj
    have := h.at_ (σ j) h2 (by rw [h.inv j h3]; exact hj)
    have e : m[σ (σ j)]'(by rw [h.inv j h3]; exact hj) = m[j] := by congr 1; exact h.inv j h3
    rw [e] at this
    exact this.symm⟩
theorem Shuf.to_ {l m : PG} {σ : Nat → Nat} (h : Shuf l m σ) {x : ByteArray × List ByteArray} (hx : x ∈ l) : ∃ y ∈ m, NAlike x y := by
  obtain ⟨j, hj, rfl⟩ := List.mem_iff_getElem.1 hx
  have h2 : σ j < m.length := by rw [← h.len]; exact h.lt j hj
  exact ⟨_, List.getElem_mem h2, h.at_ j hj h2⟩
theorem Shuf.long {l m : PG} {σ : Nat → Nat} (h : Shuf l m σ) (q : ∃ n ∈ l, 16 < n.2.length) : ∃ n ∈ m, 16 < n.2.length := by
  obtain ⟨n, hn, hl⟩ := q
  obtain ⟨y, hy, ha⟩ := h.to_ hn
  exact ⟨y, hy, ha.l.1 hl⟩
theorem Shuf.bad {l m : PG} {σ : Nat → Nat} (h : Shuf l m σ) (q : ∃ n ∈ l, ∃ s ∈ n.1 :: n.2, rightE s ≠ 0) : ∃ n ∈ m, ∃ s ∈ n.1 :: n.2, rightE s ≠ 0 := by
  obtain ⟨n, hn, s, hs, hl⟩ := q
  obtain ⟨y, hy, ha⟩ := h.to_ hn
  refine ⟨y, hy, s, ?_, hl⟩
  rcases List.mem_cons.1 hs with rfl | hs
  · rw [ha.n]; exact List.mem_cons_self
  · exact List.mem_cons_of_mem _ ((ha.i s).1 hs)
theorem Shuf.nodup {l m : PG} {σ : Nat → Nat} (h : Shuf l m σ) (q : (gNames l).Nodup) : (gNames m).Nodup := by
  have hs := h.symm
  unfold gNames at *
  rw [List.Nodup, List.pairwise_iff_getElem] at q ⊢
  intro a b ha hb hab
  rw [List.length_map] at ha hb
  have ha1 := hs.lt a ha
  have hb1 := hs.lt b hb
  have ha2 : σ a < l.length := by rw [h.len]; exact ha1
  have hb2 : σ b < l.length := by rw [h.len]; exact hb1
  rw [List.getElem_map, List.getElem_map, (hs.at_ a ha ha2).n, (hs.at_ b hb hb2).n]
  have hne : σ a ≠ σ b := fun e => by
    have := hs.inv a ha
    rw [e, hs.inv b hb] at this
    omega
  rcases Nat.lt_or_ge (σ a) (σ b) with hlt | hge
  · have := q (σ a) (σ b) (by rw [List.length_map]; exact ha2) (by rw [List.length_map]; exact hb2) hlt
    rwa [List.getElem_map, List.getElem_map] at this
  · have := q (σ b) (σ a) (by rw [List.length_map]; exact hb2) (by rw [List.length_map]; exact ha2) (by omega)
    rw [List.getElem_map, List.getElem_map] at this
    exact fun e => this e.symm
theorem Shuf.names {l m : PG} {σ : Nat → Nat} (h : Shuf l m σ) {s : ByteArray} (q : s ∈ gNames l) : s ∈ gNames m := by
  obtain ⟨x, hx, rfl⟩ := List.mem_map.1 q
  obtain ⟨y, hy, ha⟩ := h.to_ hx
  exact List.mem_map.2 ⟨y, hy, ha.n.symm⟩
theorem Shuf.imp {l m : PG} {σ : Nat → Nat} (h : Shuf l m σ) (q : (gNames l).Nodup) {s y : ByteArray} (k : y ∈ gImp l s) : y ∈ gImp m s := by
  rcases gImp_mem (G := l) s with h0 | ⟨x, hx, h2, h3⟩
  · rw [h0] at k; cases k
  · rw [h3] at k
    obtain ⟨z, hz, ha⟩ := h.to_ hx
    have := gImp_in (h.nodup q) hz
    rw [← h2, ha.n, this]
    exact (ha.i y).1 k
theorem Shuf.newE {l m : PG} {σ : Nat → Nat} (h : Shuf l m σ) : newE l = newE m := by
  have e1 : (32 < l.length ∨ ∃ n ∈ l, 16 < n.2.length) ↔ (32 < m.length ∨ ∃ n ∈ m, 16 < n.2.length) := by rw [h.len]; exact or_congr Iff.rfl ⟨h.long, h.symm.long⟩
  have e2 : (∃ n ∈ l, ∃ s ∈ n.1 :: n.2, rightE s ≠ 0) ↔ (∃ n ∈ m, ∃ s ∈ n.1 :: n.2, rightE s ≠ 0) := ⟨h.bad, h.symm.bad⟩
  have e3 : (gNames l).Nodup ↔ (gNames m).Nodup := ⟨h.nodup, h.symm.nodup⟩
  unfold Go.Proofs.Ytcjdpccbkfnnlaa.newE
  simp only [e1, e2, e3]
theorem Shuf.newG {l m : PG} {σ : Nat → Nat} (h : Shuf l m σ) (q : (gNames l).Nodup) : newG l = newG m :=
  newG_congr q (h.nodup q) (fun _ => ⟨h.names, h.symm.names⟩) (fun _ _ => ⟨h.imp q, h.symm.imp (h.nodup q)⟩)
/-- Two exchanged. -/
def swp (i k j : Nat) : Nat := if j = k then i else if j = i then k else j
theorem swp_lt {i k j n : Nat} (hi : i < n) (hk : k < n) (hj : j < n) : swp i k j < n := by unfold swp; split <;> (try split) <;> omega
theorem swp_swp (i k j : Nat) : swp i k (swp i k j) = j := by unfold swp; split <;> (try split) <;> (try split) <;> (try split) <;> omega
/-- The turned list. -/
def turnL (l : List ByteArray) : List ByteArray := l.reverse ++ l.reverse.take 1
theorem turnL_mem (l : List ByteArray) (s : ByteArray) : s ∈ l ↔ s ∈ turnL l := by
  unfold turnL
  rw [List.mem_append, List.mem_reverse]
  exact ⟨.inl, fun h => h.elim id (fun h => List.mem_reverse.1 (List.mem_of_mem_take h))⟩
theorem turnL_len (l : List ByteArray) : (turnL l).length ≤ l.length + 1 := by
  unfold turnL
  simp
  omega
/-- The nodes as the law lays them. -/
def shufL (l : List SN) (i k : Nat) : List SN := match l[i]?, l[k]? with
  | some a, some b => (l.set i b).set k ⟨a.f0, turnL a.f1⟩
  | _, _ => l
theorem shufL_eq {l : List SN} {i k : Nat} (hi : i < l.length) (hk : k < l.length) : shufL l i k = (l.set i l[k]).set k ⟨l[i].f0, turnL l[i].f1⟩ := by
  unfold shufL
  rw [List.getElem?_eq_getElem hi, List.getElem?_eq_getElem hk]
theorem shufL_shuf {l : List SN} {i k : Nat} (hi : i < l.length) (hk : k < l.length) (h16 : l[i].f1.length < 16) : Shuf ((shufL l i k).map nd) (l.map nd) (swp i k) := by
  rw [shufL_eq hi hk]
  refine ⟨by simp, fun j hj => ?_, fun j _ => swp_swp i k j, fun j hj h2 => ?_⟩
  · simp only [List.length_map, List.length_set] at hj ⊢
    exact swp_lt hi hk hj
  · simp only [List.length_map, List.length_set] at hj h2
    rw [List.getElem_map, List.getElem_map, List.getElem_set]
    have hs : swp i k j = if j = k then i else if j = i then k else j := rfl
    by_cases h1 : k = j
    · rw [if_pos h1]
      have e : swp i k j = i := by rw [hs, if_pos h1.symm]
      simp only [e]
      refine ⟨rfl, fun s => (turnL_mem _ s).symm, ?_⟩
      have := turnL_len l[i].f1
      show 16 < (turnL l[i].f1).length ↔ 16 < l[i].f1.length
      omega
    · rw [if_neg h1, List.getElem_set]
      by_cases h3 : i = j
      · rw [if_pos h3]
        have e : swp i k j = k := by rw [hs, if_neg (fun e => h1 e.symm), if_pos h3.symm]
        simp only [e]
        exact NAlike.refl _
      · rw [if_neg h3]
        have e : swp i k j = j := by rw [hs, if_neg (fun e => h1 e.symm), if_neg (fun e => h3 e.symm)]
        simp only [e]
        exact NAlike.refl _
theorem order_none {w : World} : Calls Try.prog 17 #[.pointer none] w fun e w' => e = .returned (.tuple #[.slice none 0 0, .int .i64 2]) ∧ Below w.heap.size w w' := by
  go_enter Try.func17, Try.ntmps17
  go_wp2
  go_step3
  go_wp2
  rw [Exit.noGoto_ret]
  go_ret2
  exact ⟨rfl, Below.refl _ _⟩
/-- Order of any graph, a nil one too. -/
def OrdV (v : Value) (G : PG) (o : List ByteArray) (E : Int) : Prop := (v = .pointer none → o = [] ∧ E = 2) ∧ (v ≠ .pointer none → OrderS G o E)
theorem order_gp {w : World} {v : Value} {G : PG} (h : GP w v G) : Calls Try.prog 17 #[v] w fun e w' => ∃ (o : List ByteArray) (E : Int) (u : Value), OrdV v G o E ∧ e = .returned (.tuple #[u, .int .i64 E]) ∧ RdL w' u o ∧ Below w.heap.size w w' := by
  rcases h with ⟨rfl, rfl⟩ | ⟨p, rfl, h⟩
  · refine order_none.mono ?_
    rintro e w' ⟨rfl, hb⟩
    exact ⟨[], 2, _, And.intro (fun _ => And.intro rfl rfl) (fun h => absurd rfl h), rfl, RdL.nil _, hb⟩
  · refine (order_any h).mono ?_
    rintro e w' ⟨o, E, u, h1, h2, h3, h4⟩
    exact ⟨o, E, u, And.intro (fun h => (by cases h)) (fun _ => h1), h2, h3, h4⟩
theorem OrdV.same {v v2 : Value} {G : PG} {a b : List ByteArray} {E F : Int} (h : OrdV v G a E) (k : OrdV v2 G b F) (hv : v = .pointer none ↔ v2 = .pointer none) : a = b ∧ E = F := by
  by_cases hn : v = .pointer none
  · obtain ⟨h1, h2⟩ := h.1 hn
    obtain ⟨k1, k2⟩ := k.1 (hv.1 hn)
    exact ⟨by rw [h1, k1], by rw [h2, k2]⟩
  · exact order_same (h.2 hn) (k.2 (fun e => hn (hv.2 e)))
end Go.Proofs.Ytcjdpccbkfnnlaa

set_option linter.unusedVariables false
set_option linter.unusedSimpArgs false
namespace Go.Proofs.Ytcjdpccbkfnnlaa
open Go.RowKit Go.Sort Go.Proofs.YtcjdpccbkfnnlaaW.PrintWords Go.Proofs.Ytcjdpccbkfnnlaa.KCarveGA

/-- A list of texts that lies elsewhere than a block. -/
def SL (w : World) (B : Nat) (v : Value) (l : List ByteArray) : Prop := ∃ A c, v = .slice A l.length c ∧ l.length ≤ c ∧ KS.C w A l.length l ∧ ∀ a, A = some a → 0 < l.length → a.block ≠ B
theorem SL.keep {w w' : World} {B : Nat} {v : Value} {l : List ByteArray} (h : SL w B v l) (hk : KeepBut w w' B none) : SL w' B v l := by
  obtain ⟨A, c, e, h1, h2, h3⟩ := h
  exact ⟨A, c, e, h1, Kd.C_foot_ne (fun h => h) h2 h3 w' hk, h3⟩
theorem SL.below {w w' : World} {B : Nat} {v : Value} {l : List ByteArray} (h : SL w B v l) (hk : Below w.heap.size w w') : SL w' B v l := h.keep (KeepBut.of_below hk B none)
def NEl (w : World) (B j : Nat) (x : SN) : Prop := w.cell? ⟨B, j * 2, none⟩ = some (.string x.f0) ∧ ∃ v, w.cell? ⟨B, j * 2 + 1, none⟩ = some v ∧ SL w B v x.f1
structure NM (w : World) (B : Nat) (xs : List SN) : Prop where
  blk : ∃ cs, w.heap[B]? = some (.cells cs 47 (0, 0))
  few : xs.length ≤ 9223372036854775807
  at_ : ∀ j (h : j < xs.length), NEl w B j xs[j]
theorem NM.lt {w : World} {B : Nat} {xs : List SN} (h : NM w B xs) : B < w.heap.size := by
  obtain ⟨cs, h⟩ := h.blk
  exact blk_lt h
theorem NM.fz {w : World} {B : Nat} {xs : List SN} (h : NM w B xs) (i : Nat) : w.frozen? ⟨B, i, none⟩ = false := by
  obtain ⟨cs, h⟩ := h.blk
  exact blk_frozen h i
theorem NM.below {w w' : World} {B : Nat} {xs : List SN} (h : NM w B xs) (hb : Below w.heap.size w w') : NM w' B xs := by
  refine ⟨?_, h.few, fun j hj => ?_⟩
  · obtain ⟨cs, h1⟩ := h.blk
    exact ⟨cs, blk_below h1 hb⟩
  · obtain ⟨h1, v, h2, h3⟩ := h.at_ j hj
    exact ⟨pw_cell_below hb h1, v, pw_cell_below hb h2, h3.below hb⟩
/-- An element is written. -/
theorem NM.put {w : World} {B : Nat} {xs : List SN} (h : NM w B xs) {i : Nat} (hi : i < xs.length) (x : SN) {v : Value} (hv : SL w B v x.f1) :
    NM ((w.setCell ⟨B, i * 2, none⟩ (.string x.f0)).setCell ⟨B, i * 2 + 1, none⟩ v) B (xs.set i x) := by
  have hk : KeepBut w ((w.setCell ⟨B, i * 2, none⟩ (.string x.f0)).setCell ⟨B, i * 2 + 1, none⟩ v) B none := ((KeepBut.refl w B none).set_ (i * 2) _).set_ (i * 2 + 1) _
  refine ⟨?_, by rw [List.length_set]; exact h.few, fun j hj => ?_⟩
  · obtain ⟨cs, h1⟩ := h.blk
    exact ⟨_, blk_set (blk_set h1 _ _) _ _⟩
  · rw [List.length_set] at hj
    obtain ⟨h1, v2, h2, h3⟩ := h.at_ j hj
    obtain ⟨g1, v3, g2, _⟩ := h.at_ i hi
    rw [List.getElem_set]
    by_cases e : i = j
    · subst e
      rw [if_pos rfl]
      refine ⟨?_, v, ?_, hv.keep hk⟩
      · rw [World.cell?_setCell_other _ _ _ _ (fun q => by injection q with _ q; omega)]
        exact World.cell?_setCell_same _ _ _ g1
      · obtain ⟨u, hu⟩ := cell?_setCell_some (p := ⟨B, i * 2, none⟩) (x := .string x.f0) g2
        exact World.cell?_setCell_same _ _ _ hu
    · rw [if_neg e]
      refine ⟨?_, v2, ?_, h3.keep hk⟩
      · rw [World.cell?_setCell_other _ _ _ _ (fun q => by injection q with _ q; omega), World.cell?_setCell_other _ _ _ _ (fun q => by injection q with _ q; omega)]
        exact h1
      · rw [World.cell?_setCell_other _ _ _ _ (fun q => by injection q with _ q; omega), World.cell?_setCell_other _ _ _ _ (fun q => by injection q with _ q; omega)]
        exact h2
/-- An element's list is written. -/
theorem NM.puti {w : World} {B : Nat} {xs : List SN} (h : NM w B xs) {i : Nat} (hi : i < xs.length) (l : List ByteArray) {v : Value} (hv : SL w B v l) :
    NM (w.setCell ⟨B, i * 2 + 1, none⟩ v) B (xs.set i ⟨xs[i].f0, l⟩) := by
  have hk : KeepBut w (w.setCell ⟨B, i * 2 + 1, none⟩ v) B none := (KeepBut.refl w B none).set_ (i * 2 + 1) _
  refine ⟨?_, by rw [List.length_set]; exact h.few, fun j hj => ?_⟩
  · obtain ⟨cs, h1⟩ := h.blk
    exact ⟨_, blk_set h1 _ _⟩
  · rw [List.length_set] at hj
    obtain ⟨h1, v2, h2, h3⟩ := h.at_ j hj
    rw [List.getElem_set]
    by_cases e : i = j
    · subst e
      rw [if_pos rfl]
      refine ⟨?_, v, World.cell?_setCell_same _ _ _ h2, hv.keep hk⟩
      rw [World.cell?_setCell_other _ _ _ _ (fun q => by injection q with _ q; omega)]
      exact h1
    · rw [if_neg e]
      refine ⟨?_, v2, ?_, h3.keep hk⟩
      · rw [World.cell?_setCell_other _ _ _ _ (fun q => by injection q with _ q; omega)]
        exact h1
      · rw [World.cell?_setCell_other _ _ _ _ (fun q => by injection q with _ q; omega)]
        exact h2
theorem plain_add (B n : Nat) : (⟨B, 0, none⟩ : Addr).add n = ⟨B, n, none⟩ := by rw [add_plain]
/-- Nodes that are read. -/
theorem NM.C {w : World} {B : Nat} {xs : List SN} (h : NM w B xs) : Kd.C KN w (some ⟨B, 0, none⟩) xs.length xs := by
  refine ⟨rfl, h.few, fun _ => ⟨_, rfl, fun j p hj => ?_⟩⟩
  obtain ⟨hj1, rfl⟩ := List.getElem?_eq_some_iff.1 hj
  obtain ⟨h1, v, h2, A, c, rfl, h3, h4, _⟩ := h.at_ j hj1
  refine ⟨_, rfl, k47_mk w _ h3 h4, fun i u hu => ?_⟩
  rw [show KN.sz = 2 from rfl, plain_add]
  rcases i with _ | _ | i
  · have : u = .string xs[j].f0 := by simpa using hu.symm
    subst this
    exact h1
  · have : u = .slice A xs[j].f1.length c := by simpa using hu.symm
    subst this
    exact h2
  · simp at hu
/-- Nodes of one's own. -/
theorem NM.of {w : World} {base B n c : Nat} {ok : Nat → Prop} {xs : List SN} (h : Kd.S KN 47 w base ok (.slice (some ⟨B, 0, none⟩) n c) xs) : NM w B xs := by
  obtain ⟨hn, hc, hC⟩ := Kd.S_reads' h
  refine ⟨?_, hC.2.1, fun j hj => ?_⟩
  · obtain ⟨inner, _, ho⟩ := Kd.S_own h
    rcases ho with ⟨h2, _⟩ | ⟨g, cap, cur, he, hb, hh, _⟩
    · cases h2
    · obtain rfl : B = g := by injection he with e1 e2 e3; injection e1 with e1; injection e1 with e1
      exact ⟨_, hh⟩
  · obtain ⟨oki, cs, _, hM, hcc, _, hoki, _⟩ := Kd.S_elem h ⟨⟨#[]⟩, []⟩ (j : Int) (by omega) (by omega)
    have hr : xs.getD ((j : Int)).toNat ⟨⟨#[]⟩, []⟩ = xs[j] := by simp [List.getD_eq_getElem?_getD, hj]
    rw [hr] at hM
    obtain ⟨v1, rfl, hR⟩ := k47_openM hM
    have c0 := hcc 0 _ rfl
    have c1 := hcc 1 _ rfl
    rw [show KN.sz = 2 from rfl, Int.toNat_natCast] at c0 c1
    refine ⟨c0, v1, c1, ?_⟩
    obtain ⟨A, c2, rfl, h4, h5⟩ := Kd.R_reads hR
    refine ⟨A, c2, rfl, h4, h5, fun a ha _ => ?_⟩
    subst ha
    obtain ⟨inner, _, ho⟩ := Kd.R_own hR
    rcases ho with ⟨h2, _⟩ | ⟨g, cap, cur, he, hb, hh, _⟩
    · cases h2
    · have ea : a = ⟨g, 0, none⟩ := by injection he with e1 e2 e3; injection e1 with e1
      subst ea
      exact (hoki g (hR.1 g (by simp [Value.ownBlock]))).2
end Go.Proofs.Ytcjdpccbkfnnlaa

set_option linter.unusedVariables false
set_option linter.unusedSimpArgs false
namespace Go.Proofs.Ytcjdpccbkfnnlaa
open Go.RowKit Go.Sort Go.Proofs.YtcjdpccbkfnnlaaW.PrintWords Go.Proofs.Ytcjdpccbkfnnlaa.KCarveGA

theorem shufL_mem {l : List SN} {i k : Nat} (hi : i < l.length) (hk : k < l.length) {x : SN} (h : x ∈ shufL l i k) : x ∈ l ∨ x = ⟨l[i].f0, turnL l[i].f1⟩ := by
  rw [shufL_eq hi hk] at h
  rcases List.mem_or_eq_of_mem_set h with h | h
  · rcases List.mem_or_eq_of_mem_set h with h | h
    · exact .inl h
    · exact .inl (h ▸ List.getElem_mem hk)
  · exact .inr h
theorem shufL_len (l : List SN) (i k : Nat) : (shufL l i k).length = l.length := by
  unfold shufL
  split
  · rw [List.length_set, List.length_set]
  · rfl
theorem own_any_len (A : Option Addr) (n m c : Nat) : (Value.slice A n c).ownBlock = (Value.slice A m c).ownBlock := by cases A <;> rfl
set_option maxRecDepth 100000 in
set_option maxHeartbeats 16000000 in
theorem shuf_row {w : World} {A : Option Addr} {c : Nat} {l : List SR11} (h : Kd.C KR11 w A l.length l) (hc : l.length ≤ c) (hx : ∀ x ∈ l, NokA x) (hl : l.length * 40 ≤ 140737488351232) (i k : Int) :
    Calls Try.prog 6 #[.slice A l.length c, .int .i64 i, .int .i64 k] w fun e w' => e = .returned (.bool true) ∧ Below w.heap.size w w' := by
  by_cases hin : 0 ≤ i ∧ 0 ≤ k ∧ i < l.length ∧ k < l.length
  · obtain ⟨h1, h2, h3, h4⟩ := hin
    obtain ⟨i, rfl⟩ := Int.eq_ofNat_of_zero_le h1
    obtain ⟨k, rfl⟩ := Int.eq_ofNat_of_zero_le h2
    have hiN : i < l.length := by omega
    have hkN : k < l.length := by omega
    have h3' : ¬ (l.length : Int) ≤ (i : Int) := by omega
    have h4' : ¬ (l.length : Int) ≤ (k : Int) := by omega
    have how := own_any h hc hl hx
    obtain ⟨ad, A1, c1, rfl, h0, h1c, hc1, hC1⟩ := rnode_at h hiN
    have HL := hid h
    clear h h1 h2
    by_cases h16 : l[i].f1.length < 16
    · have h16I : ¬ (16 : Int) ≤ (l[i].f1.length : Int) := by omega
      have HC1 := hid hC1
      clear h0 hC1
      go_enter Try.func6, Try.ntmps6
      go_wp2_with fail
      refine how.mono ?_
      rintro e w1 ⟨v, rfl, hS, b1⟩
      clear how
      obtain ⟨inner, ho⟩ := Kd.S_own hS
      obtain ⟨B, n, rfl⟩ : ∃ B n, v = .slice (some ⟨B, 0, none⟩) l.length n := by
        obtain ⟨hl0, ho⟩ := ho
        rcases ho with h | ⟨g, cap, cur, he, _⟩
        · have h5 := h.2
          rw [List.length_map] at h5
          omega
        · exact ⟨g, cap, by rw [he, List.length_map]⟩
      have hM := NM.of hS
      have HS := hid (And.intro hS b1)
      clear hS ho b1
      obtain ⟨m0, hm0⟩ : ∃ m0, m0 = l.map asN := ⟨_, rfl⟩
      rw [← hm0] at hM
      have hlm : m0.length = l.length := by rw [hm0, List.length_map]
      obtain ⟨ci0, vi, ci1, si⟩ := hM.at_ i (by omega)
      obtain ⟨ck0, vk, ck1, sk⟩ := hM.at_ k (by omega)
      have hfz := hM.fz
      have HM0 := hid hm0
      have SI := hid si
      have SK := hid sk
      obtain ⟨Ai, ci, rfl, _, _, _⟩ := si
      obtain ⟨Ak, ck, rfl, _, _, _⟩ := sk
      generalize hxi : m0[i] = xi at ci0 ci1 SI
      generalize hxk : m0[k] = xk at ck0 ck1 SK
      have HX := hid (And.intro hxi hxk)
      clear hm0 hxi hxk
      have hiB : i < m0.length := by omega
      have hkB : k < m0.length := by omega
      have hBlt := hM.lt
      have ba := below_alloc (Below.refl w1.heap.size w1) (.cells #[.string xi.f0, .slice Ai xi.f1.length ci] 47)
      have hM1 := hM.below ba
      have hz0 : (w1.alloc (.cells #[.string xi.f0, .slice Ai xi.f1.length ci] 47)).cell? ⟨w1.heap.size, 0, none⟩ = some (.string xi.f0) := by rw [cell_of_row _ _ _ _ _ _ (heap_alloc_new w1 _)]; rfl
      have hz1 : (w1.alloc (.cells #[.string xi.f0, .slice Ai xi.f1.length ci] 47)).cell? ⟨w1.heap.size, 1, none⟩ = some (.slice Ai xi.f1.length ci) := by rw [cell_of_row _ _ _ _ _ _ (heap_alloc_new w1 _)]; rfl
      have di0 := pw_cell_below ba ci0
      have di1 := pw_cell_below ba ci1
      have dk0 := pw_cell_below ba ck0
      have dk1 := pw_cell_below ba ck1
      have hfz1 := hM1.fz
      have SI1 := SI.out.below ba
      have SK1 := SK.out.below ba
      have hM2 := hM1.put hiB xk SK1
      have hk2 : KeepBut _ _ B none := ((KeepBut.refl (w1.alloc (.cells #[.string xi.f0, .slice Ai xi.f1.length ci] 47)) B none).set_ (i * 2) (.string xk.f0)).set_ (i * 2 + 1) (.slice Ak xk.f1.length ck)
      have hM3 := hM2.put (i := k) (by rw [List.length_set]; exact hkB) xi (SI1.keep hk2)
      have di1' := (World.cell?_setCell_other (w1.alloc (.cells #[.string xi.f0, .slice Ai xi.f1.length ci] 47)) ⟨B, i * 2, none⟩ ⟨B, i * 2 + 1, none⟩ (.string xk.f0) (fun q => by injection q with _ q; omega)).trans di1
      generalize hW1 : w1.alloc (.cells #[.string xi.f0, .slice Ai xi.f1.length ci] 47) = W1 at *
      generalize hW2 : (W1.setCell ⟨B, i * 2, none⟩ (.string xk.f0)).setCell ⟨B, i * 2 + 1, none⟩ (.slice Ak xk.f1.length ck) = W2 at *
      have bW2 : Below w1.heap.size W1 W2 ∨ True := .inr trivial
      have hne : B ≠ w1.heap.size := by omega
      have ez0 : W2.cell? ⟨w1.heap.size, 0, none⟩ = some (.string xi.f0) := by
        rw [← hW2, World.cell?_setCell_other _ _ _ _ (fun q => by injection q with q; omega), World.cell?_setCell_other _ _ _ _ (fun q => by injection q with q; omega)]; exact hz0
      have ez1 : W2.cell? ⟨w1.heap.size, 1, none⟩ = some (.slice Ai xi.f1.length ci) := by
        rw [← hW2, World.cell?_setCell_other _ _ _ _ (fun q => by injection q with q; omega), World.cell?_setCell_other _ _ _ _ (fun q => by injection q with q; omega)]; exact hz1
      have hfz2 := hM2.fz
      obtain ⟨ek0, ev, ek1, _⟩ := hM2.at_ k (by rw [List.length_set]; exact hkB)
      have ek1' := (World.cell?_setCell_other W2 ⟨B, k * 2, none⟩ ⟨B, k * 2 + 1, none⟩ (.string xi.f0) (fun q => by injection q with _ q; omega)).trans ek1
      have fk1 : ((W2.setCell ⟨B, k * 2, none⟩ (.string xi.f0)).setCell ⟨B, k * 2 + 1, none⟩ (.slice Ai xi.f1.length ci)).cell? ⟨B, k * 2 + 1, none⟩ = some (.slice Ai xi.f1.length ci) := World.cell?_setCell_same _ _ _ ek1'
      have hk3 : KeepBut W2 _ B none := ((KeepBut.refl W2 B none).set_ (k * 2) (.string xi.f0)).set_ (k * 2 + 1) (.slice Ai xi.f1.length ci)
      have SI3 := (SI1.keep hk2).keep hk3
      have hw1s : B < w1.heap.size := hBlt
      have bB : w.heap.size ≤ B := by
        obtain ⟨_, _, ho⟩ := Kd.S_own HS.out.1
        rcases ho with ⟨h2, _⟩ | ⟨g, cap, cur, he, hb, hh, _⟩
        · cases h2
        · obtain rfl : B = g := by injection he with e1 e2 e3; injection e1 with e1; injection e1 with e1
          exact hb
      have b01 : Below w.heap.size w W1 := below_step HS.out.2 ba
      have b02 : Below w.heap.size w W2 := by rw [← hW2]; exact (b01.setCell (p := ⟨B, i * 2, none⟩) bB _).setCell (p := ⟨B, i * 2 + 1, none⟩) bB _
      have b03 : Below w.heap.size w ((W2.setCell ⟨B, k * 2, none⟩ (.string xi.f0)).setCell ⟨B, k * 2 + 1, none⟩ (.slice Ai xi.f1.length ci)) := (b02.setCell (p := ⟨B, k * 2, none⟩) bB _).setCell (p := ⟨B, k * 2 + 1, none⟩) bB _
      generalize hW3 : (W2.setCell ⟨B, k * 2, none⟩ (.string xi.f0)).setCell ⟨B, k * 2 + 1, none⟩ (.slice Ai xi.f1.length ci) = W3 at *
      have H3 := hid (And.intro hM3 (And.intro b03 (And.intro bB SI3)))
      have hxi16 : xi.f1.length < 16 := by
        have e := HX.out.1
        have e2 := HM0.out
        subst e2
        rw [← e, List.getElem_map]
        exact h16
      clear hM3 b03 bB SI3 b01 b02 hk3 hk2 hM2 hM1 SI1 SK1 SI SK
      go_upto_block 0 with (fail)
      clear hz0 hz1 di0 di1 dk0 dk1 di1' ez0 ez1 ek0 ek1 ek1' ci0 ci1 ck0 ck1 hfz hfz1 hfz2
      go_cut [9] (fun u wc => (∃ A c, u = .slice A xi.f1.length c) ∧ KS.R 9 wc W3.heap.size (fun q => W3.heap.size ≤ q) u xi.f1.reverse ∧ Below W3.heap.size W3 wc)
      case first =>
        have hCi : KS.C W3 Ai xi.f1.length xi.f1 := by
          obtain ⟨A', c', e, _, h2, _⟩ := H3.out.2.2.2
          injection e with e1 _ _
          subst e1
          exact h2
        have HCi := hid hCi
        clear hCi
        go_wp2_with fail
        go_loopw [9, 10] (fun u jv wr => ∃ d : Nat, d ≤ xi.f1.length ∧ jv = .int .i64 ((xi.f1.length : Int) - 1 - d) ∧ (∃ A c, u = .slice A (xi.f1.reverse.take d).length c) ∧ KS.R 9 wr W3.heap.size (fun q => W3.heap.size ≤ q) u (xi.f1.reverse.take d) ∧ Below W3.heap.size W3 wr) (fun _ jv _ => (intOf jv + 1).toNat)
        case atStart => exact ⟨0, Nat.zero_le _, by go_num, ⟨none, 0, rfl⟩, Kd.R_nil _ _ _ _ _, Below.refl _ _⟩
        case round =>
          obtain ⟨W, hW⟩ : ∃ W : World, W = wr := ⟨_, rfl⟩
          subst hW
          obtain ⟨d, hd, rfl, ⟨A', c', rfl⟩, hR, hB⟩ := hrel
          have hcm := pw_cell_below hB fk1
          by_cases hlt : d < xi.f1.length
          · obtain ⟨e, he⟩ : ∃ e : Nat, (xi.f1.length : Int) - 1 - d = e := ⟨xi.f1.length - 1 - d, by omega⟩
            have heN : e < xi.f1.length := by omega
            have heI : (e : Int) < (xi.f1.length : Int) := by omega
            rw [he]
            have hC := Kd.C_below HCi.out hB
            cases Ai with
            | none =>
              have := KS_none hC
              rw [this] at hlt
              simp at hlt
            | some ad2 =>
            have hcell := KS_at hC heN
            have hrl : d < xi.f1.reverse.length := by rw [List.length_reverse]; exact hlt
            have hre : xi.f1.reverse[d] = xi.f1[e] := by
              rw [List.getElem_reverse]
              congr 1
              omega
            have hnx : xi.f1.reverse.take (d + 1) = xi.f1.reverse.take d ++ [xi.f1[e]] := by rw [List.take_succ_eq_append_getElem hrl, hre]
            have hln : (xi.f1.reverse.take d).length ≤ 16 := by rw [List.length_take]; omega
            have hsw : W3.heap.size ≤ W.heap.size := hB.size
            generalize xi.f1[e] = x at hcell hnx
            have HN := hid (And.intro hnx he)
            clear hnx hre hC he
            go_wp2_with (at_builtin; refine Kd.R_append KS (w0 := W3) (W := W) W3.heap.size rfl (.tmp 75) (.tmp 84) 30 9 (.string ⟨#[]⟩) 16 rfl Try.underlying30 info_str rfl (by decide) (by decide) _ _ x [.string x] (fun q => W3.heap.size ≤ q) (fun _ => False) rfl rfl rfl (fun _ h => h.elim) (fun q hq => Nat.le_trans hsw hq) hR ?HB ?hb ?hl ?_)
            case HB => exact hB
            case hb => exact hsw
            case hl => omega
            intro v2 w2 hR2 _ hg2 _
            have hB2 : Below W3.heap.size W3 w2 := hB.grown hg2 hsw (fun q hq => hR.1 q ((own_any_len A' _ _ c').trans hq))
            have hsl := Kd.R_slice hR2
            rw [← HN.out.1] at hR2 hsl
            clear hR hB hg2 hcell hcm
            go_wp2
            go_roundw
            case rel => exact ⟨d + 1, by omega, by have := HN.out.2; rw [show (xi.f1.length : Int) - 1 - ((d + 1 : Nat) : Int) = (e : Int) - 1 from by omega], hsl, hR2, hB2⟩
            case measure => first | (simp [intOf]; done) | (simp [intOf]; omega)
          · obtain rfl : xi.f1.length = d := by omega
            rw [show (xi.f1.length : Int) - 1 - (xi.f1.length : Int) = -1 from by omega]
            rw [List.take_of_length_le (by rw [List.length_reverse]; exact Nat.le_refl _)] at hR ⊢
            rw [List.length_reverse]
            rw [List.length_reverse] at hR
            have HB := hid (And.intro hR hB)
            clear hR hB
            go_wp2_with fail
            go_meet
            case rel => exact ⟨⟨_, _, rfl⟩, HB.out.1, HB.out.2⟩
      case rest =>
        obtain ⟨⟨A', c', rfl⟩, hR, hB⟩ := hcut
        have HB := hid (And.intro hR hB)
        have hsw : W3.heap.size ≤ wc.heap.size := hB.size
        apply_assumption
        refine wp_seq_k (fun K hK => ?_)
        go_cut [9] (fun u wc2 => (∃ A c, u = .slice A (turnL xi.f1).length c) ∧ KS.R 9 wc2 W3.heap.size (fun q => W3.heap.size ≤ q) u (turnL xi.f1) ∧ Below W3.heap.size W3 wc2)
        case first =>
          by_cases h0 : xi.f1.length = 0
          · have hnil : xi.f1 = [] := List.eq_nil_of_length_eq_zero h0
            have ht : turnL xi.f1 = [] := by rw [hnil]; rfl
            have hr : xi.f1.reverse = [] := by rw [hnil]; rfl
            have HT := hid (And.intro ht (And.intro hr h0))
            rw [h0]
            clear hnil ht hr hR hB
            go_wp2_with fail
            go_meet
            case rel => exact ⟨⟨A', c', by rw [HT.out.1]; rfl⟩, by have := HB.out.1; rw [HT.out.2.1, HT.out.2.2] at this; rw [HT.out.1]; exact this, HB.out.2⟩
          · have hpos : (0 : Int) < (xi.f1.length : Int) := by omega
            have hCR := (Kd.R_reads' hR).2.2
            have hrp : 0 < xi.f1.reverse.length := by rw [List.length_reverse]; omega
            cases A' with
            | none =>
              have := KS_none hCR
              rw [this] at hrp
              simp at hrp
            | some ad2 =>
            have hcell := KS_at hCR hrp
            have hcell0 : wc.cell? ad2 = some (.string xi.f1.reverse[0]) := by simpa [Addr.add] using hcell
            have hnx : turnL xi.f1 = xi.f1.reverse ++ [xi.f1.reverse[0]] := by
              unfold turnL
              rw [List.take_succ_eq_append_getElem hrp]
              rfl
            have hln : xi.f1.reverse.length ≤ 16 := by rw [List.length_reverse]; omega
            generalize xi.f1.reverse[0] = x at hcell hcell0 hnx
            have HN := hid hnx
            clear hnx hCR hrp
            have HLN := hid hln
            clear h0 hln
            go_wp2_with (at_builtin; refine Kd.R_append KS (w0 := W3) (W := wc) W3.heap.size rfl (.tmp 89) (.tmp 93) 30 9 (.string ⟨#[]⟩) 16 rfl Try.underlying30 info_str rfl (by decide) (by decide) _ _ x [.string x] (fun q => W3.heap.size ≤ q) (fun _ => False) rfl rfl rfl (fun _ h => h.elim) (fun q hq => Nat.le_trans hsw hq) hR ?HB ?hb ?hl ?_)
            case HB => exact hB
            case hb => exact hsw
            case hl => have := HLN.out; omega
            intro v2 w2 hR2 _ hg2 _
            have hB2 : Below W3.heap.size W3 w2 := hB.grown hg2 hsw (fun q hq => hR.1 q hq)
            have hsl := Kd.R_slice hR2
            rw [← HN.out] at hR2 hsl
            clear hR hB hg2 hcell hcell0
            go_wp2_with fail
            go_meet
            case rel => exact ⟨hsl, hR2, hB2⟩
        case rest =>
          clear hR hB HB hsw
          obtain ⟨⟨A5, c5, rfl⟩, hR, hB⟩ := hcut
          obtain ⟨V, hV⟩ : ∃ V : World, V = wc := ⟨_, rfl⟩
          subst hV
          have hM4 := H3.out.1.below hB
          have hcm := pw_cell_below hB fk1
          have hfz4 := hM4.fz
          have hsl : SL V B (.slice A5 (turnL xi.f1).length c5) (turnL xi.f1) := by
            obtain ⟨_, hl4, hC4⟩ := Kd.R_reads' hR
            refine ⟨A5, c5, rfl, hl4, hC4, fun a ha _ e => ?_⟩
            subst ha
            have h1 := hR.1 a.block rfl
            have h2 := H3.out.1.lt
            dsimp only at h1
            omega
          have hM5 := hM4.puti (i := k) (by rw [List.length_set, List.length_set]; exact hkB) (turnL xi.f1) hsl
          have hml : (((m0.set i xk).set k xi).set k ⟨(((m0.set i xk).set k xi)[k]'(by rw [List.length_set, List.length_set]; exact hkB)).f0, turnL xi.f1⟩) = shufL m0 i k := by
            rw [List.set_set, shufL_eq hiB hkB, HX.out.1, HX.out.2]
            simp
          rw [hml] at hM5
          have b5 : Below w.heap.size w (V.setCell ⟨B, k * 2 + 1, none⟩ (.slice A5 (turnL xi.f1).length c5)) := (below_step H3.out.2.1 hB).setCell (p := ⟨B, k * 2 + 1, none⟩) H3.out.2.2.1 _
          generalize hW5 : V.setCell ⟨B, k * 2 + 1, none⟩ (.slice A5 (turnL xi.f1).length c5) = W5 at *
          have how := own_any (w := W5) (Kd.C_below HL.out b5) hc hl hx
          have H5 := hid (And.intro hM5 b5)
          clear hM4 hsl hM5 b5 hml hR hB
          go_wp2_with fail
          refine how.mono ?_
          rintro e w6 ⟨v6, rfl, hS6, b6⟩
          have hmd := made_any hS6 hx
          have H6 := hid (And.intro (H5.out.1.below b6) (below_step H5.out.2 b6))
          clear how hS6 b6 hcm hfz4
          go_wp2_with fail
          refine hmd.mono ?_
          rintro e w7 ⟨g, rfl, hne, hok, b7⟩
          have hnw := new_any (c := n) (H6.out.1.below b7).C (fun x hxm => by
            have hall : ∀ y ∈ m0, y.f0.size ≤ 9223372036854775807 ∧ y.f1.length ≤ 9223372036854775807 ∧ ∀ z ∈ y.f1, z.size ≤ 9223372036854775807 := fun y hy => by
              have e0 := HM0.out
              subst e0
              obtain ⟨q, hq, rfl⟩ := List.mem_map.1 hy
              have := hx q hq
              exact ⟨by have := this.s; show q.f0.size ≤ _; omega, by have := this.l; show q.f1.length ≤ _; omega, fun z hz => by have := this.i z hz; omega⟩
            rcases shufL_mem hiB hkB hxm with h | rfl
            · exact hall x h
            · have hq := hall _ (List.getElem_mem hiB)
              refine ⟨hq.1, ?_, fun z hz => hq.2.2 z ((turnL_mem _ z).2 hz)⟩
              have := turnL_len m0[i].f1
              have e := HX.out.1
              rw [e] at this ⊢
              show (turnL xi.f1).length ≤ _
              omega)
          have hsh : Shuf ((shufL m0 i k).map nd) (l.map nr) (swp i k) := by
            have := shufL_shuf hiB hkB (by rw [HX.out.1]; exact hxi16)
            have e := HM0.out
            rw [show m0.map nd = l.map nr from by rw [e, asN_nd]] at this
            exact this
          rw [shufL_len, hlm] at hnw
          unfold NewE at hnw
          rw [hsh.newE] at hnw
          have H7 := hid (below_step H6.out.2 b7)
          clear hmd
          go_wp2_with fail
          refine hnw.mono ?_
          rintro e w8 ⟨g2, rfl, hne2, hok2, b8⟩
          have H8 := hid (below_step H7.out b8)
          clear hnw
          have hgg : ∃ G, GP w8 g G ∧ GP w8 g2 G ∧ ((g = .pointer none ∧ g2 = .pointer none) ∨ ∃ p1 p2, g = .pointer (some ⟨p1, 0, none⟩) ∧ g2 = .pointer (some ⟨p2, 0, none⟩)) := by
            by_cases hE : newE (l.map nr) = 0
            · obtain ⟨p1, rfl, m1⟩ := hok hE
              obtain ⟨p2, rfl, m2⟩ := hok2 hE
              have hnd := (newE_zero hE).1
              rw [hsh.newG (hsh.symm.nodup hnd)] at m2
              exact ⟨_, .inr ⟨p1, rfl, m1.below b8⟩, .inr ⟨p2, rfl, m2⟩, .inr ⟨p1, p2, rfl, rfl⟩⟩
            · exact ⟨[], .inl ⟨hne hE, rfl⟩, .inl ⟨hne2 hE, rfl⟩, .inl ⟨hne hE, hne2 hE⟩⟩
          clear hne hok hne2 hok2 b7 b8
          obtain ⟨G, hga, hgb, hcase⟩ := hgg
          have hal := alive_any (w := w8)
          generalize newE (l.map nr) = E
          have HG := hid (And.intro hga hgb)
          clear hga hgb hsh
          rcases hcase with ⟨rfl, rfl⟩ | ⟨p1, p2, rfl, rfl⟩
          all_goals
            go_wp2_with fail
            refine hal.mono ?_
            rintro e w9 ⟨rfl, b9⟩
            have ho1 := order_gp (HG.out.1.below b9)
            have H9 := hid (And.intro (HG.out.1.below b9) (And.intro (HG.out.2.below b9) (below_step H8.out b9)))
            clear hal b9
            go_wp2_with fail
            refine ho1.mono ?_
            rintro e w10 ⟨o1, E1, u1, O1, rfl, ⟨Aa, ca, rfl, la, Ca⟩, b10⟩
            have ho2 := order_gp (H9.out.2.1.below b10)
            have HO1 := hid (And.intro O1 (And.intro la Ca))
            have H10 := hid (And.intro (H9.out.1.below b10) (And.intro (H9.out.2.1.below b10) (below_step H9.out.2.2 b10)))
            clear ho1 b10 O1 la Ca
            go_wp2_with fail
            refine ho2.mono ?_
            rintro e w11 ⟨o2, E2, u2, O2, rfl, ⟨Ab, cb, rfl, lb, Cb⟩, b11⟩
            obtain ⟨rfl, rfl⟩ := HO1.out.1.same O2 (by simp)
            have htx := texts_same (Kd.C_below HO1.out.2.2 b11) HO1.out.2.1 Cb lb rfl
            have H11 := hid (And.intro (H10.out.1.below b11) (And.intro (H10.out.2.1.below b11) (below_step H10.out.2.2 b11)))
            clear ho2 b11 O2 lb Cb
            go_wp2_with fail
            refine htx.mono ?_
            rintro e w12 ⟨rfl, b12⟩
            have hr1 := ring_any (H11.out.1.below b12)
            have H12 := hid (And.intro (H11.out.1.below b12) (And.intro (H11.out.2.1.below b12) (below_step H11.out.2.2 b12)))
            clear htx b12
            go_wp2_with fail
            refine hr1.mono ?_
            rintro e w13 ⟨r1, R1, v1, rfl, ⟨Ac, cc, rfl, lc, Cc⟩, b13⟩
            have hr2 := ring_any (H12.out.2.1.below b13)
            have HR1 := hid (And.intro R1 (And.intro lc Cc))
            have H13 := hid (And.intro (H12.out.1.below b13) (And.intro (H12.out.2.1.below b13) (below_step H12.out.2.2 b13)))
            clear hr1 b13 R1 lc Cc
            go_wp2_with fail
            refine hr2.mono ?_
            rintro e w14 ⟨r2, R2, v2, rfl, ⟨Ad, cd, rfl, ld, Cd⟩, b14⟩
            obtain rfl := HR1.out.1.eq R2
            have htx := texts_same (Kd.C_below HR1.out.2.2 b14) HR1.out.2.1 Cd ld rfl
            have H14 := hid (And.intro (H13.out.1.below b14) (And.intro (H13.out.2.1.below b14) (below_step H13.out.2.2 b14)))
            clear hr2 b14 R2 ld Cd
            go_wp2_with fail
            refine htx.mono ?_
            rintro e w15 ⟨rfl, b15⟩
            have hn1 := names_any (H14.out.1.below b15)
            have H15 := hid (And.intro (H14.out.1.below b15) (And.intro (H14.out.2.1.below b15) (below_step H14.out.2.2 b15)))
            clear htx b15
            go_wp2_with fail
            refine hn1.mono ?_
            rintro e w16 ⟨Ae, ce, rfl, Re, b16⟩
            have hn2 := names_any (H15.out.2.1.below b16)
            have HRe := hid (Kd.R_reads' Re).2
            have H16 := hid (below_step H15.out.2.2 b16)
            clear hn1 b16 Re
            go_wp2_with fail
            refine hn2.mono ?_
            rintro e w17 ⟨Af, cf, rfl, Rf, b17⟩
            have htx := texts_same (Kd.C_below HRe.out.2 b17) HRe.out.1 (Kd.R_reads' Rf).2.2 (Kd.R_reads' Rf).2.1 rfl
            have H17 := hid (below_step H16.out b17)
            clear hn2 b17 Rf
            go_wp2_with fail
            refine htx.mono ?_
            rintro e w18 ⟨rfl, b18⟩
            have HF := hid (below_step H17.out b18)
            clear htx b18
            go_wp2
            go_ret
            exact ⟨rfl, HF.out⟩
    · have h16I : (16 : Int) ≤ (l[i].f1.length : Int) := by omega
      have hal := alive_any (w := w)
      clear how
      go_enter Try.func6, Try.ntmps6
      go_wp2_with fail
      refine hal.mono ?_
      rintro e w3 ⟨rfl, b3⟩
      have HF := hid b3
      clear hal b3
      go_wp2
      go_ret
      exact ⟨rfl, HF.out⟩
  · have hal := alive_any (w := w)
    have hcase : i < 0 ∨ (¬ i < 0 ∧ k < 0) ∨ (¬ i < 0 ∧ ¬ k < 0 ∧ (l.length : Int) ≤ i) ∨ (¬ i < 0 ∧ ¬ k < 0 ∧ ¬ (l.length : Int) ≤ i ∧ (l.length : Int) ≤ k) := by omega
    clear hin
    rcases hcase with h1 | ⟨h1, h2⟩ | ⟨h1, h2, h3⟩ | ⟨h1, h2, h3, h4⟩
    all_goals
      go_enter Try.func6, Try.ntmps6
      go_wp2_with fail
      refine hal.mono ?_
      rintro e w3 ⟨rfl, b3⟩
      have HF := hid b3
      clear hal b3
      go_wp2
      go_ret
      exact ⟨rfl, HF.out⟩
end Go.Proofs.Ytcjdpccbkfnnlaa

set_option linter.unusedVariables false
set_option linter.unusedSimpArgs false
namespace Go.Proofs.Ytcjdpccbkfnnlaa
open Go.ChangeShapes Go.WideShapes Go.ChangeAt Go.RowKit Go.Proofs.YtcjdpccbkfnnlaaW.PrintWords
open Go.ChangeMaps (open_string shut_string)
set_option linter.unusedVariables false
theorem depgraphShuffled_own : ownKnob Try.prog.godebug = none := by kernel_rfl
theorem depgraphShuffled_laid : laidOutB Try.prog = true := by kernel_rfl
set_option maxRecDepth 100000 in
theorem depgraphShuffled_lifted (os : Os) (started : os.Started) (H : Type) (enc : TypeId × Value → H) :
    ReturnsInHanded {} Try.checked os 6 .any (Rows.depgraphShuffledSpec.pre6 enc Try.prog Try.f6 Rows.depgraphShuffledRow.domain false) (Rows.depgraphShuffledSpec.post enc Try.prog Try.f6 false true false false) := by
  refine returnsInHanded_of_change_sized (C := Try.checked) depgraphShuffled_own started (by kernel_rfl) Try.func6
    (ChangeSpec.witness6 (enc := enc) (C := Try.checked) false ⟨#[], #[.slice none 0 0, .int .i64 0, .int .i64 0], []⟩ 8 (by kernel_rfl) (by kernel_rfl) (by kernel_rfl) (by kernel_rfl)) ?_
  intro W base args ds gs before hval0 hW hcnd hsz0 _
  have hsz : (DataW.weightsEach Try.prog (Try.f6.params.toList ++ Rows.depgraphShuffledSpec.plain.varTypes Try.prog) (ds ++ gs)).all (· ≤ reachBytes) = true := hsz0
  have hval : ∀ (j : Nat) t v, Try.f6.params[j]? = some t → args[j]? = some v → Value.okWide Try.prog W .any base t v := hval0
  have hW' := hW
  obtain ⟨p, q, hA0, hV, rfl, hfz, hnd⟩ := hW
  have hA : DataW.TrodAll enc Try.prog W 0 (fun _ => true) true Try.f6.params.toList args.toList ds p := hA0
  rw [Try.params6] at hA hval hsz
  obtain ⟨v0, vs0, d0, ds0, p0, q0, hargs, rfl, rfl, h0, r0⟩ := trodAll_cons hA
  obtain ⟨v1, vs1, d1, ds1, p1, q1, rfl, rfl, rfl, h1, r1⟩ := trodAll_cons r0
  obtain ⟨v2, vs2, d2, ds2, p2, q2, rfl, rfl, rfl, h2, r2⟩ := trodAll_cons r1
  obtain ⟨rfl, rfl, rfl⟩ := trodAll_nil r2
  obtain rfl : args = #[v0, v1, v2] := by cases args; simp_all
  obtain ⟨rfl, rfl⟩ := trodVars_none hV
  have lt0 : ∀ x ∈ p0, x.block < W.heap.size := by obtain ⟨m, hm⟩ := h0; exact DataW.trod_lt m _ _ _ hm
  obtain ⟨A0, len0, c0, rfl⟩ := okWide_slice Try.underlying22 (hval 0 22 v0 rfl rfl)
  obtain ⟨l0, rfl, hl0, k0, g0⟩ := opens_slice_arg opens_nodes hsz (j := 0) (t := 22) rfl rfl h0
  obtain ⟨n1, rfl, rfl, rfl, g1⟩ := open_int Try.underlying3 (hval 1 3 v1 rfl rfl) h1
  obtain ⟨n2, rfl, rfl, rfl, g2⟩ := open_int Try.underlying3 (hval 2 3 v2 rfl rfl) h2
  clear hA0 hval0 hsz0 hsz
  refine (shuf_row k0 hl0 g0.1 g0.2 n1 n2).mono fun e W' ⟨he, bel⟩ => ?_
  subst he
  exact ⟨_, rfl, _, _, _, [], _, [], hW', trodAll_mk1 (shut_bool Try.underlying4 _), (trodAll_cons_mk (Below.trod depgraphShuffled_laid (by kernel_rfl) (of_decide_eq_true (by kernel_rfl)) h0 bel lt0) (trodAll_cons_mk (shut_int Try.underlying3 g1) (trodAll_cons_mk (shut_int Try.underlying3 g2) trodAll_mk0))), rfl, bel.frame _, fun h => by cases h⟩
theorem depgraphShuffled_over : Rows.depgraphShuffledRow.holds Try.pinned (OpenSpec.ofChange Rows.depgraphShuffledSpec) :=
  OpenClaim.holds_of_wide 6 Try.f6 rfl rfl rfl rfl rfl rfl rfl ⟨rfl, rfl, rfl, rfl, rfl⟩ rfl rfl rfl rfl rfl (by kernel_rfl) Try.func6 (by kernel_rfl)
    (of_decide_eq_true (by kernel_rfl)) (by unfold Func.isWrapper; first | (rw [if_pos (by decide +kernel)]; kernel_rfl) | (rw [if_neg (by decide +kernel)]; exact ⟨rfl, rfl⟩))
    (fun os started H enc _ => depgraphShuffled_lifted os started H enc)
/-- The row, for the claim. -/
theorem depgraphShuffled_holds : Rows.DepgraphShuffledSaid := depgraphShuffled_over
#print axioms depgraphShuffled_holds
end Go.Proofs.Ytcjdpccbkfnnlaa
